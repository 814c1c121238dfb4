/- Functions of numbers and lists, printed by a program of ours out of the code for the tree level, with their proofs. -/
import Derived.Test.YtdcfoaafkppojaaHOnce
set_option linter.unusedVariables false
set_option linter.unusedSimpArgs false
set_option linter.unusedSectionVars false
namespace Go.Proofs.Ytdcfoaafkppojaa
open Go Go.RowKit Sh Ic
noncomputable def spec_Check_1_f (p1 : Int) (p2 : Int) : Option Bool :=
  spec_in_f p1 (0 : Int) (IntKind.i64.wrap (p2 - (1 : Int))) >>= fun y1 =>
  some (!y1)
theorem spec_Check_1_f_s (p1 : Int) (p2 : Int) (r : Bool) (h : spec_Check_1_f p1 p2 = some r) (τ : TH) (o0 : Nat) (hl : τ.lock ≤ τ.next) (ha0 : τ.at o0 = some ⟨T_int,[.int .i64 p2]⟩) (hi0 : o0 < τ.next) : Ru G F_spec_Check_1 [.int .i64 p1,.ptr o0 0] τ (.bool r) τ := by
  refine Ru_of fun K hK => ?_
  rw [tC_code g_spec_Check_1 (Nat.le_of_ble_eq_true rfl)]
  unfold spec_Check_1_f at h
  obtain ⟨y1,hy1,h⟩ := ob h
  have k2 := spec_in_f_k p1 (0 : Int) (IntKind.i64.wrap (p2 - (1 : Int))) _ hy1
  try simp only [CL,MC,Int.reduceToNat] at k2
  injection h with h; subst h
  simp -implicitDefEqProofs only [U_spec_Check_1,TT,Ic.t,Ic.ci,Nat.reduceEqDiff,reduceIte,Nat.reduceAdd,Nat.reduceMul,Nat.reduceLT,Nat.reduceLeDiff,Nat.reduceSub,reduceCtorEq,Int.reduceEq,Int.reduceNe,Int.reduceToNat,Int.reduceLT,Int.reduceLE,Int.reduceNeg,hl,ha0,hi0,k2,CL,LTN]
  exact hK
theorem spec_Check_1_f_k (p1 : Int) (p2 : Int) (r : Bool) (h : spec_Check_1_f p1 p2 = some r) (lk : Bool) (d : Option Nat) (K : TCont) (fr : TF) (tk : TK) (τ : TH) (o0 : Nat) (hl : τ.lock ≤ τ.next) (ha0 : τ.at o0 = some ⟨T_int,[.int .i64 p2]⟩) (hi0 : o0 < τ.next) : callK G lk F_spec_Check_1 [.int .i64 p1,.ptr o0 0] d K fr tk τ = K (tput fr d (.bool r)) tk τ :=
  callK_rdo (spec_Check_1_f_s p1 p2 r h τ o0 hl ha0 hi0) (spec_Check_1_f_s p1 p2 r h (τ.locked τ.next) o0 (Nat.le_refl _) (by rw [at_lk]; exact ha0) hi0) (by simp -implicitDefEqProofs only [TT,Ic.t,Ic.ci,Nat.reduceEqDiff,reduceIte,Nat.reduceAdd,Nat.reduceMul,Nat.reduceLT,Nat.reduceLeDiff,Nat.reduceSub,reduceCtorEq,Int.reduceEq,Int.reduceNe,Int.reduceToNat,Int.reduceLT,Int.reduceLE,Int.reduceNeg,hl,ha0,hi0,CL,LTN])
noncomputable def slices_IndexFunc_int_int_f_l1_step (v0 : (List Int)) (v1 : Int) (v2 : Int) (v3 : Int) : Option (LS (Int) (LX (Unit) (Int))) :=
  if v3 < v2 then
    ixL v0 v3 >>= fun y2 =>
    spec_Check_1_f y2 v1 >>= fun y4 =>
    if y4 = true then
      some (.dn (.rt v3))
    else
    some (.nx (IntKind.i64.wrap (v3 + (1 : Int))))
  else
  some (.dn (.ex ()))
noncomputable def slices_IndexFunc_int_int_f_l1 (v0 : (List Int)) (v1 : Int) (v2 : Int) (v3 : Int) : Option (LX (Unit) (Int)) := iterO (fun st => slices_IndexFunc_int_int_f_l1_step v0 v1 v2 st) v3
theorem slices_IndexFunc_int_int_f_l1_eq (v0 : (List Int)) (v1 : Int) (v2 : Int) (v3 : Int) : slices_IndexFunc_int_int_f_l1 v0 v1 v2 v3 = slices_IndexFunc_int_int_f_l1_step v0 v1 v2 v3 >>= LS.go (fun st => slices_IndexFunc_int_int_f_l1 v0 v1 v2 st) := iterO_eq (fun st => slices_IndexFunc_int_int_f_l1_step v0 v1 v2 st) v3
def slices_IndexFunc_int_int_f_l1_P (v0 : (List Int)) (v1 : Int) (v2 : Int) (v3 : Int) (r : LX (Unit) (Int)) : Prop := ∀ (τ : TH) (o0 : Nat) (hl : τ.lock ≤ τ.next) (ha0 : τ.at o0 = some ⟨T_int,[.int .i64 v1]⟩) (hi0 : o0 < τ.next) (Q : TEx → TCont) (hQ0 : ∀ v : Unit,r = (.ex v) → ∀ (fr : TF) (tk2 : TK) (τ2 : TH),tk2.take 0 = [] → τ2.cut τ.next = τ → Q (.exit 0) fr tk2 τ2) (hQ1 : ∀ v : Int,r = (.rt v) → ∀ (tk2 : TK) (τ2 : TH),τ2.cut τ.next = τ → Q .ret [(4,.int .i64 v)] tk2 τ2) ,tW G (.loop [0,1,7,8] l_slices_IndexFunc_int_int_1) Q [(0,.sl (List.map (TV.int .i64) v0)),(1,.func F_spec_Check_1 [] [.ptr o0 0]),(7,.int .i64 v2),(8,.int .i64 v3)] [] τ
theorem slices_IndexFunc_int_int_f_l1_s (v0 : (List Int)) (v1 : Int) (v2 : Int) (v3 : Int) (r : LX (Unit) (Int)) (h : slices_IndexFunc_int_int_f_l1 v0 v1 v2 v3 = some r) : slices_IndexFunc_int_int_f_l1_P v0 v1 v2 v3 r := by
  refine iterO_ind (f := fun st => slices_IndexFunc_int_int_f_l1_step v0 v1 v2 st) (P := fun st r => ∀ (v3 : Int),v3 = st → slices_IndexFunc_int_int_f_l1_P v0 v1 v2 v3 r) ?_ h v3 rfl
  clear h r v3
  intro st o h r ih v3 hst τ o0  hl ha0 hi0 Q hQ0 hQ1
  subst hst
  have h : slices_IndexFunc_int_int_f_l1_step v0 v1 v2 v3 = some o := h
  unfold slices_IndexFunc_int_int_f_l1_step at h
  refine tW_lp fun LQ hn hr he => ?_
  by_cases c1 : v3 < v2
  · rw [if_pos c1] at h
    obtain ⟨y2,hy2,h⟩ := ob h
    have f3 := ixL_facts hy2
    have f3a := (f3.2.2 (TV.int .i64)).1
    have f3b := (f3.2.2 (TV.int .i64)).2
    try simp only [CL,MC,Int.reduceToNat] at f3 f3a f3b
    obtain ⟨y4,hy4,h⟩ := ob h
    have k5 := spec_Check_1_f_k y2 v1 _ hy4
    try simp only [CL,MC,Int.reduceToNat] at k5
    by_cases c6 : y4 = true
    · rw [if_pos c6] at h
      injection h with h; subst h
      obtain rfl : _ = r := ih
      simp -implicitDefEqProofs only [l_slices_IndexFunc_int_int_1,U_slices_IndexFunc_int_int,TT,Ic.t,Ic.ci,Nat.reduceEqDiff,reduceIte,Nat.reduceAdd,Nat.reduceMul,Nat.reduceLT,Nat.reduceLeDiff,Nat.reduceSub,reduceCtorEq,Int.reduceEq,Int.reduceNe,Int.reduceToNat,Int.reduceLT,Int.reduceLE,Int.reduceNeg,hl,ha0,hi0,he,hr,c1,f3.1,f3.2.1,f3a,f3b,k5,c6,CL,LTN]
      exact hQ1 v3 rfl  _ _  (by first | exact cut_ge (Nat.le_refl _) | (simp -implicitDefEqProofs only [TT,Ic.t,Ic.ci,Nat.reduceEqDiff,reduceIte,Nat.reduceAdd,Nat.reduceMul,Nat.reduceLT,Nat.reduceLeDiff,Nat.reduceSub,reduceCtorEq,Int.reduceEq,Int.reduceNe,Int.reduceToNat,Int.reduceLT,Int.reduceLE,Int.reduceNeg,hl,ha0,hi0,c1,f3.1,f3.2.1,f3a,f3b,k5,c6,CL,LTN]))
    rw [if_neg c6] at h
    have c6 := Bool.eq_false_iff.2 c6
    injection h with h; subst h
    have ih := ih (IntKind.i64.wrap (v3 + (1 : Int))) rfl
    unfold slices_IndexFunc_int_int_f_l1_P at ih
    simp -implicitDefEqProofs only [l_slices_IndexFunc_int_int_1,U_slices_IndexFunc_int_int,TT,Ic.t,Ic.ci,Nat.reduceEqDiff,reduceIte,Nat.reduceAdd,Nat.reduceMul,Nat.reduceLT,Nat.reduceLeDiff,Nat.reduceSub,reduceCtorEq,Int.reduceEq,Int.reduceNe,Int.reduceToNat,Int.reduceLT,Int.reduceLE,Int.reduceNeg,hl,ha0,hi0,c1,f3.1,f3.2.1,f3a,f3b,k5,c6,CL,LTN]
    rw [hn]
    simp -implicitDefEqProofs only [TT,Ic.t,Ic.ci,Nat.reduceEqDiff,reduceIte,Nat.reduceAdd,Nat.reduceMul,Nat.reduceLT,Nat.reduceLeDiff,Nat.reduceSub,reduceCtorEq,Int.reduceEq,Int.reduceNe,Int.reduceToNat,Int.reduceLT,Int.reduceLE,Int.reduceNeg,hl,ha0,hi0,c1,f3.1,f3.2.1,f3a,f3b,k5,c6,CL,LTN]
    exact ih  τ o0   (by first | assumption | (simp only [next_pt,lock_pt]; assumption)) (by simp -implicitDefEqProofs only [TT,Ic.t,Ic.ci,Nat.reduceEqDiff,reduceIte,Nat.reduceAdd,Nat.reduceMul,Nat.reduceLT,Nat.reduceLeDiff,Nat.reduceSub,reduceCtorEq,Int.reduceEq,Int.reduceNe,Int.reduceToNat,Int.reduceLT,Int.reduceLE,Int.reduceNeg,hl,ha0,hi0,c1,f3.1,f3.2.1,f3a,f3b,k5,c6,CL,LTN]) (by first | assumption | (simp only [next_pt,lock_pt]; assumption)) Q hQ0 hQ1
  rw [if_neg c1] at h
  injection h with h; subst h
  obtain rfl : _ = r := ih
  simp -implicitDefEqProofs only [l_slices_IndexFunc_int_int_1,U_slices_IndexFunc_int_int,TT,Ic.t,Ic.ci,Nat.reduceEqDiff,reduceIte,Nat.reduceAdd,Nat.reduceMul,Nat.reduceLT,Nat.reduceLeDiff,Nat.reduceSub,reduceCtorEq,Int.reduceEq,Int.reduceNe,Int.reduceToNat,Int.reduceLT,Int.reduceLE,Int.reduceNeg,hl,ha0,hi0,he,hr,c1,CL,LTN]
  exact hQ0 () rfl  _ _ _   (by first | rfl | (simp -implicitDefEqProofs only [TT,Ic.t,Ic.ci,Nat.reduceEqDiff,reduceIte,Nat.reduceAdd,Nat.reduceMul,Nat.reduceLT,Nat.reduceLeDiff,Nat.reduceSub,reduceCtorEq,Int.reduceEq,Int.reduceNe,Int.reduceToNat,Int.reduceLT,Int.reduceLE,Int.reduceNeg,hl,ha0,hi0,c1,CL,LTN])) (by first | exact cut_ge (Nat.le_refl _) | (simp -implicitDefEqProofs only [TT,Ic.t,Ic.ci,Nat.reduceEqDiff,reduceIte,Nat.reduceAdd,Nat.reduceMul,Nat.reduceLT,Nat.reduceLeDiff,Nat.reduceSub,reduceCtorEq,Int.reduceEq,Int.reduceNe,Int.reduceToNat,Int.reduceLT,Int.reduceLE,Int.reduceNeg,hl,ha0,hi0,c1,CL,LTN]))
noncomputable def slices_IndexFunc_int_int_f (p1 : (List Int)) (p2 : Int) : Option Int :=
  slices_IndexFunc_int_int_f_l1 p1 p2 ((p1.length : Nat) : Int) (0 : Int) >>= fun y1 =>
  match y1 with
  | .ex w2 =>
    some (-1 : Int)
  | .rt w4 =>
    some w4
theorem slices_IndexFunc_int_int_f_s (p1 : (List Int)) (p2 : Int) (r : Int) (h : slices_IndexFunc_int_int_f p1 p2 = some r) (τ : TH) (o0 : Nat) (hl : τ.lock ≤ τ.next) (ha0 : τ.at o0 = some ⟨T_int,[.int .i64 p2]⟩) (hi0 : o0 < τ.next) : Ru G F_slices_IndexFunc_int_int [.sl (List.map (TV.int .i64) p1),.func F_spec_Check_1 [] [.ptr o0 0]] τ (.int .i64 r) τ := by
  refine Ru_of fun K hK => ?_
  rw [tC_code g_slices_IndexFunc_int_int (Nat.le_of_ble_eq_true rfl)]
  unfold slices_IndexFunc_int_int_f at h
  obtain ⟨y1,hy1,h⟩ := ob h
  simp -implicitDefEqProofs only [U_slices_IndexFunc_int_int,TT,Ic.t,Ic.ci,Nat.reduceEqDiff,reduceIte,Nat.reduceAdd,Nat.reduceMul,Nat.reduceLT,Nat.reduceLeDiff,Nat.reduceSub,reduceCtorEq,Int.reduceEq,Int.reduceNe,Int.reduceToNat,Int.reduceLT,Int.reduceLE,Int.reduceNeg,hl,ha0,hi0,CL,LTN]
  have Sy1 := slices_IndexFunc_int_int_f_l1_s p1 p2 ((p1.length : Nat) : Int) (0 : Int) y1 hy1
  unfold slices_IndexFunc_int_int_f_l1_P at Sy1
  refine Sy1 _ o0 (by first | assumption | omega | (simp only [next_pt,next_pu,lock_pt,lock_pu]; omega)) (by simp -implicitDefEqProofs only [TT,Ic.t,Ic.ci,Nat.reduceEqDiff,reduceIte,Nat.reduceAdd,Nat.reduceMul,Nat.reduceLT,Nat.reduceLeDiff,Nat.reduceSub,reduceCtorEq,Int.reduceEq,Int.reduceNe,Int.reduceToNat,Int.reduceLT,Int.reduceLE,Int.reduceNeg,hl,ha0,hi0,CL,LTN]) (by first | assumption | omega | (simp only [next_pt,next_pu,lock_pt,lock_pu]; omega)) _ ?_ ?_
  · intro w2 e frq3 tkq3 τq3 htq3 hcq3
    subst e
    simp only at h
    have hcq3 := cut_via (n := τ.next) hcq3 (by first | omega | (simp only [next_pt,next_pu]; omega))
    try simp only [List.take_succ_cons,List.take_zero,List.take_nil,CL] at htq3
    try simp -implicitDefEqProofs only [TT,Ic.t,Ic.ci,Nat.reduceEqDiff,reduceIte,Nat.reduceAdd,Nat.reduceMul,Nat.reduceLT,Nat.reduceLeDiff,Nat.reduceSub,reduceCtorEq,Int.reduceEq,Int.reduceNe,Int.reduceToNat,Int.reduceLT,Int.reduceLE,Int.reduceNeg,hl,ha0,hi0,CL,LTN] at hcq3
    injection h with h; subst h
    simp -implicitDefEqProofs only [U_slices_IndexFunc_int_int,TT,Ic.t,Ic.ci,Nat.reduceEqDiff,reduceIte,Nat.reduceAdd,Nat.reduceMul,Nat.reduceLT,Nat.reduceLeDiff,Nat.reduceSub,reduceCtorEq,Int.reduceEq,Int.reduceNe,Int.reduceToNat,Int.reduceLT,Int.reduceLE,Int.reduceNeg,hl,ha0,hi0,htq3,hcq3,CL,LTN]
    exact hK
  intro w4 e tkq5 τq5 hcq5
  subst e
  simp only at h
  have hcq5 := cut_via (n := τ.next) hcq5 (by first | omega | (simp only [next_pt,next_pu]; omega))
  try simp -implicitDefEqProofs only [TT,Ic.t,Ic.ci,Nat.reduceEqDiff,reduceIte,Nat.reduceAdd,Nat.reduceMul,Nat.reduceLT,Nat.reduceLeDiff,Nat.reduceSub,reduceCtorEq,Int.reduceEq,Int.reduceNe,Int.reduceToNat,Int.reduceLT,Int.reduceLE,Int.reduceNeg,hl,ha0,hi0,CL,LTN] at hcq5
  injection h with h; subst h
  simp -implicitDefEqProofs only [U_slices_IndexFunc_int_int,TT,Ic.t,Ic.ci,Nat.reduceEqDiff,reduceIte,Nat.reduceAdd,Nat.reduceMul,Nat.reduceLT,Nat.reduceLeDiff,Nat.reduceSub,reduceCtorEq,Int.reduceEq,Int.reduceNe,Int.reduceToNat,Int.reduceLT,Int.reduceLE,Int.reduceNeg,hl,ha0,hi0,hcq5,CL,LTN]
  exact hK
theorem slices_IndexFunc_int_int_f_k (p1 : (List Int)) (p2 : Int) (r : Int) (h : slices_IndexFunc_int_int_f p1 p2 = some r) (lk : Bool) (d : Option Nat) (K : TCont) (fr : TF) (tk : TK) (τ : TH) (o0 : Nat) (hl : τ.lock ≤ τ.next) (ha0 : τ.at o0 = some ⟨T_int,[.int .i64 p2]⟩) (hi0 : o0 < τ.next) : callK G lk F_slices_IndexFunc_int_int [.sl (List.map (TV.int .i64) p1),.func F_spec_Check_1 [] [.ptr o0 0]] d K fr tk τ = K (tput fr d (.int .i64 r)) tk τ :=
  callK_rdo (slices_IndexFunc_int_int_f_s p1 p2 r h τ o0 hl ha0 hi0) (slices_IndexFunc_int_int_f_s p1 p2 r h (τ.locked τ.next) o0 (Nat.le_refl _) (by rw [at_lk]; exact ha0) hi0) (by simp -implicitDefEqProofs only [TT,Ic.t,Ic.ci,Nat.reduceEqDiff,reduceIte,Nat.reduceAdd,Nat.reduceMul,Nat.reduceLT,Nat.reduceLeDiff,Nat.reduceSub,reduceCtorEq,Int.reduceEq,Int.reduceNe,Int.reduceToNat,Int.reduceLT,Int.reduceLE,Int.reduceNeg,hl,ha0,hi0,CL,LTN])
noncomputable def slices_ContainsFunc_int_int_f (p1 : (List Int)) (p2 : Int) : Option Bool :=
  slices_IndexFunc_int_int_f p1 p2 >>= fun y1 =>
  some (decide ((0 : Int) ≤ y1))
theorem slices_ContainsFunc_int_int_f_s (p1 : (List Int)) (p2 : Int) (r : Bool) (h : slices_ContainsFunc_int_int_f p1 p2 = some r) (τ : TH) (o0 : Nat) (hl : τ.lock ≤ τ.next) (ha0 : τ.at o0 = some ⟨T_int,[.int .i64 p2]⟩) (hi0 : o0 < τ.next) : Ru G F_slices_ContainsFunc_int_int [.sl (List.map (TV.int .i64) p1),.func F_spec_Check_1 [] [.ptr o0 0]] τ (.bool r) τ := by
  refine Ru_of fun K hK => ?_
  rw [tC_code g_slices_ContainsFunc_int_int (Nat.le_of_ble_eq_true rfl)]
  unfold slices_ContainsFunc_int_int_f at h
  obtain ⟨y1,hy1,h⟩ := ob h
  have k2 := slices_IndexFunc_int_int_f_k p1 p2 _ hy1
  try simp only [CL,MC,Int.reduceToNat] at k2
  injection h with h; subst h
  simp -implicitDefEqProofs only [U_slices_ContainsFunc_int_int,TT,Ic.t,Ic.ci,Nat.reduceEqDiff,reduceIte,Nat.reduceAdd,Nat.reduceMul,Nat.reduceLT,Nat.reduceLeDiff,Nat.reduceSub,reduceCtorEq,Int.reduceEq,Int.reduceNe,Int.reduceToNat,Int.reduceLT,Int.reduceLE,Int.reduceNeg,hl,ha0,hi0,k2,CL,LTN]
  exact hK
theorem slices_ContainsFunc_int_int_f_k (p1 : (List Int)) (p2 : Int) (r : Bool) (h : slices_ContainsFunc_int_int_f p1 p2 = some r) (lk : Bool) (d : Option Nat) (K : TCont) (fr : TF) (tk : TK) (τ : TH) (o0 : Nat) (hl : τ.lock ≤ τ.next) (ha0 : τ.at o0 = some ⟨T_int,[.int .i64 p2]⟩) (hi0 : o0 < τ.next) : callK G lk F_slices_ContainsFunc_int_int [.sl (List.map (TV.int .i64) p1),.func F_spec_Check_1 [] [.ptr o0 0]] d K fr tk τ = K (tput fr d (.bool r)) tk τ :=
  callK_rdo (slices_ContainsFunc_int_int_f_s p1 p2 r h τ o0 hl ha0 hi0) (slices_ContainsFunc_int_int_f_s p1 p2 r h (τ.locked τ.next) o0 (Nat.le_refl _) (by rw [at_lk]; exact ha0) hi0) (by simp -implicitDefEqProofs only [TT,Ic.t,Ic.ci,Nat.reduceEqDiff,reduceIte,Nat.reduceAdd,Nat.reduceMul,Nat.reduceLT,Nat.reduceLeDiff,Nat.reduceSub,reduceCtorEq,Int.reduceEq,Int.reduceNe,Int.reduceToNat,Int.reduceLT,Int.reduceLE,Int.reduceNeg,hl,ha0,hi0,CL,LTN])
noncomputable def spec_Check_f_l1_step (v0 : S_api_Spec) (v1 : Int) (v2 : Int) (v4 : (List S_api_Party)) (v5 : Int) (v3 : (List ByteArray)) (v6 : Int) : Option (LS ((List ByteArray) × Int) (LX ((List ByteArray)) (Bool))) :=
  if v6 < v5 then
    ixL v4 v6 >>= fun y2 =>
    spec_name_f y2.Account >>= fun y4 =>
    if y4 = true then
      spec_sized_f y2.Keys v2 (16 : Int) >>= fun y7 =>
      if y7 = true then
        if (v3.length + 1) * 16 ≤ 140737488355328 then
          some (.nx ((v3 ++ [y2.Account]),(IntKind.i64.wrap (v6 + (1 : Int)))))
        else
          none
      else
      some (.dn (.rt false))
    else
    some (.dn (.rt false))
  else
  some (.dn (.ex v3))
noncomputable def spec_Check_f_l1 (v0 : S_api_Spec) (v1 : Int) (v2 : Int) (v4 : (List S_api_Party)) (v5 : Int) (v3 : (List ByteArray)) (v6 : Int) : Option (LX ((List ByteArray)) (Bool)) := iterO (fun st => spec_Check_f_l1_step v0 v1 v2 v4 v5 st.1 st.2) (v3,v6)
theorem spec_Check_f_l1_eq (v0 : S_api_Spec) (v1 : Int) (v2 : Int) (v4 : (List S_api_Party)) (v5 : Int) (v3 : (List ByteArray)) (v6 : Int) : spec_Check_f_l1 v0 v1 v2 v4 v5 v3 v6 = spec_Check_f_l1_step v0 v1 v2 v4 v5 v3 v6 >>= LS.go (fun st => spec_Check_f_l1 v0 v1 v2 v4 v5 st.1 st.2) := iterO_eq (fun st => spec_Check_f_l1_step v0 v1 v2 v4 v5 st.1 st.2) (v3,v6)
def spec_Check_f_l1_P (v0 : S_api_Spec) (v1 : Int) (v2 : Int) (v4 : (List S_api_Party)) (v5 : Int) (v3 : (List ByteArray)) (v6 : Int) (r : LX ((List ByteArray)) (Bool)) : Prop := ∀ (τ : TH) (o0 : Nat) (o1 : Nat) (n0 : Nat) (ty0 : TypeId) (hnn0 : n0 = v3.length) (hty0 : n0 = 0 ∨ ty0 = T_string) (hl : τ.lock ≤ τ.next) (ha0 : τ.at o0 = some ⟨T_api_Spec,[.str v0.ID,.sl (List.map S_api_Party.tv v0.Parties),.sl (List.map S_api_Arc.tv v0.Arcs),.sl (List.map (TV.int .i64) v0.Leaders),.sl (List.map TV.str v0.Locks),.int .i64 v0.Start,.int .i64 v0.Delta]⟩) (hi0 : o0 < τ.next) (ha1 : τ.at o1 = some ⟨T_int,[.int .i64 v1]⟩) (hi1 : o1 < τ.next) (Q : TEx → TCont) (hQ0 : ∀ v : (List ByteArray),r = (.ex v) → ∀ (fr : TF) (tk2 : TK) (τ2 : TH),∀ (u0 : TypeId),(v.length = 0 ∨ u0 = T_string) → lkp fr 1 = .ptr o0 0 → lkp fr 3 = .ptr o1 0 → lkp fr 5 = .sla 0 (List.map TV.str v) → tk2.take 1 = [some (v.length,u0)] → τ2.cut τ.next = τ → Q (.exit 0) fr tk2 τ2) (hQ1 : ∀ v : Bool,r = (.rt v) → ∀ (tk2 : TK) (τ2 : TH),τ2.cut τ.next = τ → Q .ret [(2,.bool v)] tk2 τ2) ,tW G (.loop [1,3,4,5,59,60,61] l_spec_Check_1) Q [(1,.ptr o0 0),(3,.ptr o1 0),(4,.int .i64 v2),(5,.sla 0 (List.map TV.str v3)),(59,.sl (List.map S_api_Party.tv v4)),(60,.int .i64 v5),(61,.int .i64 v6)] [some (n0,ty0)] τ
theorem spec_Check_f_l1_s (v0 : S_api_Spec) (v1 : Int) (v2 : Int) (v4 : (List S_api_Party)) (v5 : Int) (v3 : (List ByteArray)) (v6 : Int) (r : LX ((List ByteArray)) (Bool)) (h : spec_Check_f_l1 v0 v1 v2 v4 v5 v3 v6 = some r) : spec_Check_f_l1_P v0 v1 v2 v4 v5 v3 v6 r := by
  refine iterO_ind (f := fun st => spec_Check_f_l1_step v0 v1 v2 v4 v5 st.1 st.2) (P := fun st r => ∀ (v3 : (List ByteArray)) (v6 : Int),(v3,v6) = st → spec_Check_f_l1_P v0 v1 v2 v4 v5 v3 v6 r) ?_ h v3 v6 rfl
  clear h r v6 v3
  intro st o h r ih v3 v6 hst τ o0 o1  n0 ty0 hnn0 hty0 hl ha0 hi0 ha1 hi1 Q hQ0 hQ1
  subst hst
  have h : spec_Check_f_l1_step v0 v1 v2 v4 v5 v3 v6 = some o := h
  unfold spec_Check_f_l1_step at h
  subst hnn0
  refine tW_lp fun LQ hn hr he => ?_
  by_cases c1 : v6 < v5
  · rw [if_pos c1] at h
    obtain ⟨y2,hy2,h⟩ := ob h
    have f3 := ixL_facts hy2
    have f3a := (f3.2.2 S_api_Party.tv).1
    have f3b := (f3.2.2 S_api_Party.tv).2
    try simp only [CL,MC,Int.reduceToNat] at f3 f3a f3b
    obtain ⟨y4,hy4,h⟩ := ob h
    have k5 := spec_name_f_k y2.Account _ hy4
    try simp only [CL,MC,Int.reduceToNat] at k5
    by_cases c6 : y4 = true
    · rw [if_pos c6] at h
      obtain ⟨y7,hy7,h⟩ := ob h
      have k8 := spec_sized_f_k y2.Keys v2 (16 : Int) _ hy7
      try simp only [CL,MC,Int.reduceToNat] at k8
      by_cases c9 : y7 = true
      · rw [if_pos c9] at h
        obtain ⟨c10,h⟩ := ifS h
        have f11 : 1 ≤ maxLen := by unfold maxLen; omega
        have f12 : v3.length + 1 ≤ maxLen := by unfold maxLen; omega
        have f13 : ((List.map TV.str v3).all fun e => e.cells.length == 1) = true := allc (fun _ => rfl) _
        have f14 : List.map TV.str v3 ++ List.map TV.str [y2.Account] = List.map TV.str (v3 ++ [y2.Account]) := appn _ _
        try simp only [CL,List.map_cons,List.map_nil] at f14
        injection h with h; subst h
        have ih := ih (v3 ++ [y2.Account]) (IntKind.i64.wrap (v6 + (1 : Int))) rfl
        unfold spec_Check_f_l1_P at ih
        simp -implicitDefEqProofs only [tPre_0,tPre_1,tPre_2,List.isEmpty_cons,tW_draw,tD,pnK,toldOf,List.filter_cons,List.filter_nil,List.filterMap_cons,List.filterMap_nil,staysTold,rdWhere,touch,freeOf,Ins.dsts,Ins.looks,I.ops,tmpsO,clsI,List.all_cons,List.all_nil,List.any_cons,List.any_nil,List.contains_cons,List.contains_nil,List.append_nil,List.nil_append,List.cons_append,Option.toList_some,Option.toList_none,Option.isSome_some,Option.isSome_none,Bool.and_true,Bool.true_and,Bool.and_false,Bool.false_and,Bool.or_false,Bool.false_or,Bool.or_true,Bool.true_or,Bool.not_false,Bool.not_true,and_true,true_and,and_false,false_and,Nat.reduceBEq,bne_iff_ne,l_spec_Check_1,U_spec_Check,TT,Ic.t,Ic.ci,Nat.reduceEqDiff,reduceIte,Nat.reduceAdd,Nat.reduceMul,Nat.reduceLT,Nat.reduceLeDiff,Nat.reduceSub,reduceCtorEq,Int.reduceEq,Int.reduceNe,Int.reduceToNat,Int.reduceLT,Int.reduceLE,Int.reduceNeg,hl,ha0,hi0,ha1,hi1,hty0,c1,f3.1,f3.2.1,f3a,f3b,k5,c6,k8,c9,c10,f11,f12,f13,f14,CL,LTN]
        rw [hn]
        simp -implicitDefEqProofs only [TT,Ic.t,Ic.ci,Nat.reduceEqDiff,reduceIte,Nat.reduceAdd,Nat.reduceMul,Nat.reduceLT,Nat.reduceLeDiff,Nat.reduceSub,reduceCtorEq,Int.reduceEq,Int.reduceNe,Int.reduceToNat,Int.reduceLT,Int.reduceLE,Int.reduceNeg,hl,ha0,hi0,ha1,hi1,hty0,c1,f3.1,f3.2.1,f3a,f3b,k5,c6,k8,c9,c10,f11,f12,f13,f14,CL,LTN]
        exact ih  τ o0 o1  (v3.length + 1) T_string (by first | rfl | simp [bytesL_len]) (by first | exact hty0 | exact Or.inr rfl | simp) (by first | assumption | (simp only [next_pt,lock_pt]; assumption)) (by simp -implicitDefEqProofs only [TT,Ic.t,Ic.ci,Nat.reduceEqDiff,reduceIte,Nat.reduceAdd,Nat.reduceMul,Nat.reduceLT,Nat.reduceLeDiff,Nat.reduceSub,reduceCtorEq,Int.reduceEq,Int.reduceNe,Int.reduceToNat,Int.reduceLT,Int.reduceLE,Int.reduceNeg,hl,ha0,hi0,ha1,hi1,hty0,c1,f3.1,f3.2.1,f3a,f3b,k5,c6,k8,c9,c10,f11,f12,f13,f14,CL,LTN]) (by first | assumption | (simp only [next_pt,lock_pt]; assumption)) (by simp -implicitDefEqProofs only [TT,Ic.t,Ic.ci,Nat.reduceEqDiff,reduceIte,Nat.reduceAdd,Nat.reduceMul,Nat.reduceLT,Nat.reduceLeDiff,Nat.reduceSub,reduceCtorEq,Int.reduceEq,Int.reduceNe,Int.reduceToNat,Int.reduceLT,Int.reduceLE,Int.reduceNeg,hl,ha0,hi0,ha1,hi1,hty0,c1,f3.1,f3.2.1,f3a,f3b,k5,c6,k8,c9,c10,f11,f12,f13,f14,CL,LTN]) (by first | assumption | (simp only [next_pt,lock_pt]; assumption)) Q hQ0 hQ1
      rw [if_neg c9] at h
      have c9 := Bool.eq_false_iff.2 c9
      injection h with h; subst h
      obtain rfl : _ = r := ih
      simp -implicitDefEqProofs only [tPre_0,tPre_1,tPre_2,List.isEmpty_cons,tW_draw,tD,pnK,toldOf,List.filter_cons,List.filter_nil,List.filterMap_cons,List.filterMap_nil,staysTold,rdWhere,touch,freeOf,Ins.dsts,Ins.looks,I.ops,tmpsO,clsI,List.all_cons,List.all_nil,List.any_cons,List.any_nil,List.contains_cons,List.contains_nil,List.append_nil,List.nil_append,List.cons_append,Option.toList_some,Option.toList_none,Option.isSome_some,Option.isSome_none,Bool.and_true,Bool.true_and,Bool.and_false,Bool.false_and,Bool.or_false,Bool.false_or,Bool.or_true,Bool.true_or,Bool.not_false,Bool.not_true,and_true,true_and,and_false,false_and,Nat.reduceBEq,bne_iff_ne,l_spec_Check_1,U_spec_Check,TT,Ic.t,Ic.ci,Nat.reduceEqDiff,reduceIte,Nat.reduceAdd,Nat.reduceMul,Nat.reduceLT,Nat.reduceLeDiff,Nat.reduceSub,reduceCtorEq,Int.reduceEq,Int.reduceNe,Int.reduceToNat,Int.reduceLT,Int.reduceLE,Int.reduceNeg,hl,ha0,hi0,ha1,hi1,hty0,he,hr,c1,f3.1,f3.2.1,f3a,f3b,k5,c6,k8,c9,CL,LTN]
      exact hQ1 false rfl  _ _  (by first | exact cut_ge (Nat.le_refl _) | (simp -implicitDefEqProofs only [TT,Ic.t,Ic.ci,Nat.reduceEqDiff,reduceIte,Nat.reduceAdd,Nat.reduceMul,Nat.reduceLT,Nat.reduceLeDiff,Nat.reduceSub,reduceCtorEq,Int.reduceEq,Int.reduceNe,Int.reduceToNat,Int.reduceLT,Int.reduceLE,Int.reduceNeg,hl,ha0,hi0,ha1,hi1,hty0,c1,f3.1,f3.2.1,f3a,f3b,k5,c6,k8,c9,CL,LTN]))
    rw [if_neg c6] at h
    have c6 := Bool.eq_false_iff.2 c6
    injection h with h; subst h
    obtain rfl : _ = r := ih
    simp -implicitDefEqProofs only [tPre_0,tPre_1,tPre_2,List.isEmpty_cons,tW_draw,tD,pnK,toldOf,List.filter_cons,List.filter_nil,List.filterMap_cons,List.filterMap_nil,staysTold,rdWhere,touch,freeOf,Ins.dsts,Ins.looks,I.ops,tmpsO,clsI,List.all_cons,List.all_nil,List.any_cons,List.any_nil,List.contains_cons,List.contains_nil,List.append_nil,List.nil_append,List.cons_append,Option.toList_some,Option.toList_none,Option.isSome_some,Option.isSome_none,Bool.and_true,Bool.true_and,Bool.and_false,Bool.false_and,Bool.or_false,Bool.false_or,Bool.or_true,Bool.true_or,Bool.not_false,Bool.not_true,and_true,true_and,and_false,false_and,Nat.reduceBEq,bne_iff_ne,l_spec_Check_1,U_spec_Check,TT,Ic.t,Ic.ci,Nat.reduceEqDiff,reduceIte,Nat.reduceAdd,Nat.reduceMul,Nat.reduceLT,Nat.reduceLeDiff,Nat.reduceSub,reduceCtorEq,Int.reduceEq,Int.reduceNe,Int.reduceToNat,Int.reduceLT,Int.reduceLE,Int.reduceNeg,hl,ha0,hi0,ha1,hi1,hty0,he,hr,c1,f3.1,f3.2.1,f3a,f3b,k5,c6,CL,LTN]
    exact hQ1 false rfl  _ _  (by first | exact cut_ge (Nat.le_refl _) | (simp -implicitDefEqProofs only [TT,Ic.t,Ic.ci,Nat.reduceEqDiff,reduceIte,Nat.reduceAdd,Nat.reduceMul,Nat.reduceLT,Nat.reduceLeDiff,Nat.reduceSub,reduceCtorEq,Int.reduceEq,Int.reduceNe,Int.reduceToNat,Int.reduceLT,Int.reduceLE,Int.reduceNeg,hl,ha0,hi0,ha1,hi1,hty0,c1,f3.1,f3.2.1,f3a,f3b,k5,c6,CL,LTN]))
  rw [if_neg c1] at h
  injection h with h; subst h
  obtain rfl : _ = r := ih
  simp -implicitDefEqProofs only [tPre_0,tPre_1,tPre_2,List.isEmpty_cons,tW_draw,tD,pnK,toldOf,List.filter_cons,List.filter_nil,List.filterMap_cons,List.filterMap_nil,staysTold,rdWhere,touch,freeOf,Ins.dsts,Ins.looks,I.ops,tmpsO,clsI,List.all_cons,List.all_nil,List.any_cons,List.any_nil,List.contains_cons,List.contains_nil,List.append_nil,List.nil_append,List.cons_append,Option.toList_some,Option.toList_none,Option.isSome_some,Option.isSome_none,Bool.and_true,Bool.true_and,Bool.and_false,Bool.false_and,Bool.or_false,Bool.false_or,Bool.or_true,Bool.true_or,Bool.not_false,Bool.not_true,and_true,true_and,and_false,false_and,Nat.reduceBEq,bne_iff_ne,l_spec_Check_1,U_spec_Check,TT,Ic.t,Ic.ci,Nat.reduceEqDiff,reduceIte,Nat.reduceAdd,Nat.reduceMul,Nat.reduceLT,Nat.reduceLeDiff,Nat.reduceSub,reduceCtorEq,Int.reduceEq,Int.reduceNe,Int.reduceToNat,Int.reduceLT,Int.reduceLE,Int.reduceNeg,hl,ha0,hi0,ha1,hi1,hty0,he,hr,c1,CL,LTN]
  exact hQ0 v3 rfl  _ _ _ ty0 (by first | exact hty0 | exact Or.inr rfl | simp) (by first | rfl | (simp -implicitDefEqProofs only [TT,Ic.t,Ic.ci,Nat.reduceEqDiff,reduceIte,Nat.reduceAdd,Nat.reduceMul,Nat.reduceLT,Nat.reduceLeDiff,Nat.reduceSub,reduceCtorEq,Int.reduceEq,Int.reduceNe,Int.reduceToNat,Int.reduceLT,Int.reduceLE,Int.reduceNeg,hl,ha0,hi0,ha1,hi1,hty0,c1,CL,LTN])) (by first | rfl | (simp -implicitDefEqProofs only [TT,Ic.t,Ic.ci,Nat.reduceEqDiff,reduceIte,Nat.reduceAdd,Nat.reduceMul,Nat.reduceLT,Nat.reduceLeDiff,Nat.reduceSub,reduceCtorEq,Int.reduceEq,Int.reduceNe,Int.reduceToNat,Int.reduceLT,Int.reduceLE,Int.reduceNeg,hl,ha0,hi0,ha1,hi1,hty0,c1,CL,LTN])) (by first | rfl | (simp -implicitDefEqProofs only [TT,Ic.t,Ic.ci,Nat.reduceEqDiff,reduceIte,Nat.reduceAdd,Nat.reduceMul,Nat.reduceLT,Nat.reduceLeDiff,Nat.reduceSub,reduceCtorEq,Int.reduceEq,Int.reduceNe,Int.reduceToNat,Int.reduceLT,Int.reduceLE,Int.reduceNeg,hl,ha0,hi0,ha1,hi1,hty0,c1,CL,LTN])) (by first | rfl | (simp -implicitDefEqProofs only [TT,Ic.t,Ic.ci,Nat.reduceEqDiff,reduceIte,Nat.reduceAdd,Nat.reduceMul,Nat.reduceLT,Nat.reduceLeDiff,Nat.reduceSub,reduceCtorEq,Int.reduceEq,Int.reduceNe,Int.reduceToNat,Int.reduceLT,Int.reduceLE,Int.reduceNeg,hl,ha0,hi0,ha1,hi1,hty0,c1,CL,LTN])) (by first | exact cut_ge (Nat.le_refl _) | (simp -implicitDefEqProofs only [TT,Ic.t,Ic.ci,Nat.reduceEqDiff,reduceIte,Nat.reduceAdd,Nat.reduceMul,Nat.reduceLT,Nat.reduceLeDiff,Nat.reduceSub,reduceCtorEq,Int.reduceEq,Int.reduceNe,Int.reduceToNat,Int.reduceLT,Int.reduceLE,Int.reduceNeg,hl,ha0,hi0,ha1,hi1,hty0,c1,CL,LTN]))
noncomputable def spec_Check_f_l2_step (v0 : S_api_Spec) (v1 : Int) (v2 : (List ByteArray)) (v4 : (List S_api_Arc)) (v5 : Int) (v3 : (List A_2_Int)) (v6 : Int) : Option (LS ((List A_2_Int) × Int) (LX ((List A_2_Int)) (Bool))) :=
  if v6 < v5 then
    ixL v4 v6 >>= fun y2 =>
    spec_arc_f (⟨y2.From,y2.To,y2.Ledger,y2.Asset,y2.Amount⟩ : S_api_Arc) v1 >>= fun y4 =>
    if y4 = true then
      if (v3.length + 1) * 16 ≤ 140737488355328 then
        some (.nx ((v3 ++ [(⟨y2.From,y2.To⟩ : A_2_Int)]),(IntKind.i64.wrap (v6 + (1 : Int)))))
      else
        none
    else
    some (.dn (.rt false))
  else
  some (.dn (.ex v3))
noncomputable def spec_Check_f_l2 (v0 : S_api_Spec) (v1 : Int) (v2 : (List ByteArray)) (v4 : (List S_api_Arc)) (v5 : Int) (v3 : (List A_2_Int)) (v6 : Int) : Option (LX ((List A_2_Int)) (Bool)) := iterO (fun st => spec_Check_f_l2_step v0 v1 v2 v4 v5 st.1 st.2) (v3,v6)
theorem spec_Check_f_l2_eq (v0 : S_api_Spec) (v1 : Int) (v2 : (List ByteArray)) (v4 : (List S_api_Arc)) (v5 : Int) (v3 : (List A_2_Int)) (v6 : Int) : spec_Check_f_l2 v0 v1 v2 v4 v5 v3 v6 = spec_Check_f_l2_step v0 v1 v2 v4 v5 v3 v6 >>= LS.go (fun st => spec_Check_f_l2 v0 v1 v2 v4 v5 st.1 st.2) := iterO_eq (fun st => spec_Check_f_l2_step v0 v1 v2 v4 v5 st.1 st.2) (v3,v6)
def spec_Check_f_l2_P (v0 : S_api_Spec) (v1 : Int) (v2 : (List ByteArray)) (v4 : (List S_api_Arc)) (v5 : Int) (v3 : (List A_2_Int)) (v6 : Int) (r : LX ((List A_2_Int)) (Bool)) : Prop := ∀ (τ : TH) (o0 : Nat) (o1 : Nat) (n0 : Nat) (ty0 : TypeId) (hnn0 : n0 = v2.length) (hty0 : n0 = 0 ∨ ty0 = T_string) (n1 : Nat) (ty1 : TypeId) (hnn1 : n1 = v3.length) (hty1 : n1 = 0 ∨ ty1 = T_2_int) (hl : τ.lock ≤ τ.next) (ha0 : τ.at o0 = some ⟨T_api_Spec,[.str v0.ID,.sl (List.map S_api_Party.tv v0.Parties),.sl (List.map S_api_Arc.tv v0.Arcs),.sl (List.map (TV.int .i64) v0.Leaders),.sl (List.map TV.str v0.Locks),.int .i64 v0.Start,.int .i64 v0.Delta]⟩) (hi0 : o0 < τ.next) (ha1 : τ.at o1 = some ⟨T_int,[.int .i64 v1]⟩) (hi1 : o1 < τ.next) (Q : TEx → TCont) (hQ0 : ∀ v : (List A_2_Int),r = (.ex v) → ∀ (fr : TF) (tk2 : TK) (τ2 : TH),∀ (u0 : TypeId),(v2.length = 0 ∨ u0 = T_string) → ∀ (u1 : TypeId),(v.length = 0 ∨ u1 = T_2_int) → lkp fr 1 = .ptr o0 0 → lkp fr 3 = .ptr o1 0 → lkp fr 5 = .sla 0 (List.map TV.str v2) → lkp fr 8 = .sla 1 (List.map A_2_Int.tv v) → tk2.take 2 = [some (v2.length,u0),some (v.length,u1)] → τ2.cut τ.next = τ → Q (.exit 2) fr tk2 τ2) (hQ1 : ∀ v : Bool,r = (.rt v) → ∀ (tk2 : TK) (τ2 : TH),τ2.cut τ.next = τ → Q .ret [(2,.bool v)] tk2 τ2) ,tW G (.loop [1,3,5,8,83,84,85] l_spec_Check_2) Q [(1,.ptr o0 0),(3,.ptr o1 0),(5,.sla 0 (List.map TV.str v2)),(8,.sla 1 (List.map A_2_Int.tv v3)),(83,.sl (List.map S_api_Arc.tv v4)),(84,.int .i64 v5),(85,.int .i64 v6)] [some (n0,ty0),some (n1,ty1)] τ
theorem spec_Check_f_l2_s (v0 : S_api_Spec) (v1 : Int) (v2 : (List ByteArray)) (v4 : (List S_api_Arc)) (v5 : Int) (v3 : (List A_2_Int)) (v6 : Int) (r : LX ((List A_2_Int)) (Bool)) (h : spec_Check_f_l2 v0 v1 v2 v4 v5 v3 v6 = some r) : spec_Check_f_l2_P v0 v1 v2 v4 v5 v3 v6 r := by
  refine iterO_ind (f := fun st => spec_Check_f_l2_step v0 v1 v2 v4 v5 st.1 st.2) (P := fun st r => ∀ (v3 : (List A_2_Int)) (v6 : Int),(v3,v6) = st → spec_Check_f_l2_P v0 v1 v2 v4 v5 v3 v6 r) ?_ h v3 v6 rfl
  clear h r v6 v3
  intro st o h r ih v3 v6 hst τ o0 o1  n0 ty0 hnn0 hty0 n1 ty1 hnn1 hty1 hl ha0 hi0 ha1 hi1 Q hQ0 hQ1
  subst hst
  have h : spec_Check_f_l2_step v0 v1 v2 v4 v5 v3 v6 = some o := h
  unfold spec_Check_f_l2_step at h
  subst hnn0
  subst hnn1
  refine tW_lp fun LQ hn hr he => ?_
  by_cases c1 : v6 < v5
  · rw [if_pos c1] at h
    obtain ⟨y2,hy2,h⟩ := ob h
    have f3 := ixL_facts hy2
    have f3a := (f3.2.2 S_api_Arc.tv).1
    have f3b := (f3.2.2 S_api_Arc.tv).2
    try simp only [CL,MC,Int.reduceToNat] at f3 f3a f3b
    obtain ⟨y4,hy4,h⟩ := ob h
    have k5 := spec_arc_f_k (⟨y2.From,y2.To,y2.Ledger,y2.Asset,y2.Amount⟩ : S_api_Arc) v1 _ hy4
    try simp only [CL,MC,Int.reduceToNat] at k5
    by_cases c6 : y4 = true
    · rw [if_pos c6] at h
      obtain ⟨c7,h⟩ := ifS h
      have f8 : 1 ≤ maxLen := by unfold maxLen; omega
      have f9 : v3.length + 1 ≤ maxLen := by unfold maxLen; omega
      have f10 : ((List.map A_2_Int.tv v3).all fun e => e.cells.length == 2) = true := allc (fun _ => rfl) _
      have f11 : List.map A_2_Int.tv v3 ++ List.map A_2_Int.tv [(⟨y2.From,y2.To⟩ : A_2_Int)] = List.map A_2_Int.tv (v3 ++ [(⟨y2.From,y2.To⟩ : A_2_Int)]) := appn _ _
      try simp only [CL,List.map_cons,List.map_nil] at f11
      injection h with h; subst h
      have ih := ih (v3 ++ [(⟨y2.From,y2.To⟩ : A_2_Int)]) (IntKind.i64.wrap (v6 + (1 : Int))) rfl
      unfold spec_Check_f_l2_P at ih
      simp -implicitDefEqProofs only [tPre_0,tPre_1,tPre_2,List.isEmpty_cons,tW_draw,tD,pnK,toldOf,List.filter_cons,List.filter_nil,List.filterMap_cons,List.filterMap_nil,staysTold,rdWhere,touch,freeOf,Ins.dsts,Ins.looks,I.ops,tmpsO,clsI,List.all_cons,List.all_nil,List.any_cons,List.any_nil,List.contains_cons,List.contains_nil,List.append_nil,List.nil_append,List.cons_append,Option.toList_some,Option.toList_none,Option.isSome_some,Option.isSome_none,Bool.and_true,Bool.true_and,Bool.and_false,Bool.false_and,Bool.or_false,Bool.false_or,Bool.or_true,Bool.true_or,Bool.not_false,Bool.not_true,and_true,true_and,and_false,false_and,Nat.reduceBEq,bne_iff_ne,l_spec_Check_2,U_spec_Check,TT,Ic.t,Ic.ci,Nat.reduceEqDiff,reduceIte,Nat.reduceAdd,Nat.reduceMul,Nat.reduceLT,Nat.reduceLeDiff,Nat.reduceSub,reduceCtorEq,Int.reduceEq,Int.reduceNe,Int.reduceToNat,Int.reduceLT,Int.reduceLE,Int.reduceNeg,hl,ha0,hi0,ha1,hi1,hty0,hty1,c1,f3.1,f3.2.1,f3a,f3b,k5,c6,c7,f8,f9,f10,f11,CL,LTN]
      rw [hn]
      simp -implicitDefEqProofs only [TT,Ic.t,Ic.ci,Nat.reduceEqDiff,reduceIte,Nat.reduceAdd,Nat.reduceMul,Nat.reduceLT,Nat.reduceLeDiff,Nat.reduceSub,reduceCtorEq,Int.reduceEq,Int.reduceNe,Int.reduceToNat,Int.reduceLT,Int.reduceLE,Int.reduceNeg,hl,ha0,hi0,ha1,hi1,hty0,hty1,c1,f3.1,f3.2.1,f3a,f3b,k5,c6,c7,f8,f9,f10,f11,CL,LTN]
      exact ih  τ o0 o1  _ ty0 (by first | rfl | simp [bytesL_len]) (by first | exact hty0 | exact Or.inr rfl | simp) (v3.length + 1) T_2_int (by first | rfl | simp [bytesL_len]) (by first | exact hty1 | exact Or.inr rfl | simp) (by first | assumption | (simp only [next_pt,lock_pt]; assumption)) (by simp -implicitDefEqProofs only [TT,Ic.t,Ic.ci,Nat.reduceEqDiff,reduceIte,Nat.reduceAdd,Nat.reduceMul,Nat.reduceLT,Nat.reduceLeDiff,Nat.reduceSub,reduceCtorEq,Int.reduceEq,Int.reduceNe,Int.reduceToNat,Int.reduceLT,Int.reduceLE,Int.reduceNeg,hl,ha0,hi0,ha1,hi1,hty0,hty1,c1,f3.1,f3.2.1,f3a,f3b,k5,c6,c7,f8,f9,f10,f11,CL,LTN]) (by first | assumption | (simp only [next_pt,lock_pt]; assumption)) (by simp -implicitDefEqProofs only [TT,Ic.t,Ic.ci,Nat.reduceEqDiff,reduceIte,Nat.reduceAdd,Nat.reduceMul,Nat.reduceLT,Nat.reduceLeDiff,Nat.reduceSub,reduceCtorEq,Int.reduceEq,Int.reduceNe,Int.reduceToNat,Int.reduceLT,Int.reduceLE,Int.reduceNeg,hl,ha0,hi0,ha1,hi1,hty0,hty1,c1,f3.1,f3.2.1,f3a,f3b,k5,c6,c7,f8,f9,f10,f11,CL,LTN]) (by first | assumption | (simp only [next_pt,lock_pt]; assumption)) Q hQ0 hQ1
    rw [if_neg c6] at h
    have c6 := Bool.eq_false_iff.2 c6
    injection h with h; subst h
    obtain rfl : _ = r := ih
    simp -implicitDefEqProofs only [tPre_0,tPre_1,tPre_2,List.isEmpty_cons,tW_draw,tD,pnK,toldOf,List.filter_cons,List.filter_nil,List.filterMap_cons,List.filterMap_nil,staysTold,rdWhere,touch,freeOf,Ins.dsts,Ins.looks,I.ops,tmpsO,clsI,List.all_cons,List.all_nil,List.any_cons,List.any_nil,List.contains_cons,List.contains_nil,List.append_nil,List.nil_append,List.cons_append,Option.toList_some,Option.toList_none,Option.isSome_some,Option.isSome_none,Bool.and_true,Bool.true_and,Bool.and_false,Bool.false_and,Bool.or_false,Bool.false_or,Bool.or_true,Bool.true_or,Bool.not_false,Bool.not_true,and_true,true_and,and_false,false_and,Nat.reduceBEq,bne_iff_ne,l_spec_Check_2,U_spec_Check,TT,Ic.t,Ic.ci,Nat.reduceEqDiff,reduceIte,Nat.reduceAdd,Nat.reduceMul,Nat.reduceLT,Nat.reduceLeDiff,Nat.reduceSub,reduceCtorEq,Int.reduceEq,Int.reduceNe,Int.reduceToNat,Int.reduceLT,Int.reduceLE,Int.reduceNeg,hl,ha0,hi0,ha1,hi1,hty0,hty1,he,hr,c1,f3.1,f3.2.1,f3a,f3b,k5,c6,CL,LTN]
    exact hQ1 false rfl  _ _  (by first | exact cut_ge (Nat.le_refl _) | (simp -implicitDefEqProofs only [TT,Ic.t,Ic.ci,Nat.reduceEqDiff,reduceIte,Nat.reduceAdd,Nat.reduceMul,Nat.reduceLT,Nat.reduceLeDiff,Nat.reduceSub,reduceCtorEq,Int.reduceEq,Int.reduceNe,Int.reduceToNat,Int.reduceLT,Int.reduceLE,Int.reduceNeg,hl,ha0,hi0,ha1,hi1,hty0,hty1,c1,f3.1,f3.2.1,f3a,f3b,k5,c6,CL,LTN]))
  rw [if_neg c1] at h
  injection h with h; subst h
  obtain rfl : _ = r := ih
  simp -implicitDefEqProofs only [tPre_0,tPre_1,tPre_2,List.isEmpty_cons,tW_draw,tD,pnK,toldOf,List.filter_cons,List.filter_nil,List.filterMap_cons,List.filterMap_nil,staysTold,rdWhere,touch,freeOf,Ins.dsts,Ins.looks,I.ops,tmpsO,clsI,List.all_cons,List.all_nil,List.any_cons,List.any_nil,List.contains_cons,List.contains_nil,List.append_nil,List.nil_append,List.cons_append,Option.toList_some,Option.toList_none,Option.isSome_some,Option.isSome_none,Bool.and_true,Bool.true_and,Bool.and_false,Bool.false_and,Bool.or_false,Bool.false_or,Bool.or_true,Bool.true_or,Bool.not_false,Bool.not_true,and_true,true_and,and_false,false_and,Nat.reduceBEq,bne_iff_ne,l_spec_Check_2,U_spec_Check,TT,Ic.t,Ic.ci,Nat.reduceEqDiff,reduceIte,Nat.reduceAdd,Nat.reduceMul,Nat.reduceLT,Nat.reduceLeDiff,Nat.reduceSub,reduceCtorEq,Int.reduceEq,Int.reduceNe,Int.reduceToNat,Int.reduceLT,Int.reduceLE,Int.reduceNeg,hl,ha0,hi0,ha1,hi1,hty0,hty1,he,hr,c1,CL,LTN]
  exact hQ0 v3 rfl  _ _ _ ty0 (by first | exact hty0 | exact Or.inr rfl | simp) ty1 (by first | exact hty1 | exact Or.inr rfl | simp) (by first | rfl | (simp -implicitDefEqProofs only [TT,Ic.t,Ic.ci,Nat.reduceEqDiff,reduceIte,Nat.reduceAdd,Nat.reduceMul,Nat.reduceLT,Nat.reduceLeDiff,Nat.reduceSub,reduceCtorEq,Int.reduceEq,Int.reduceNe,Int.reduceToNat,Int.reduceLT,Int.reduceLE,Int.reduceNeg,hl,ha0,hi0,ha1,hi1,hty0,hty1,c1,CL,LTN])) (by first | rfl | (simp -implicitDefEqProofs only [TT,Ic.t,Ic.ci,Nat.reduceEqDiff,reduceIte,Nat.reduceAdd,Nat.reduceMul,Nat.reduceLT,Nat.reduceLeDiff,Nat.reduceSub,reduceCtorEq,Int.reduceEq,Int.reduceNe,Int.reduceToNat,Int.reduceLT,Int.reduceLE,Int.reduceNeg,hl,ha0,hi0,ha1,hi1,hty0,hty1,c1,CL,LTN])) (by first | rfl | (simp -implicitDefEqProofs only [TT,Ic.t,Ic.ci,Nat.reduceEqDiff,reduceIte,Nat.reduceAdd,Nat.reduceMul,Nat.reduceLT,Nat.reduceLeDiff,Nat.reduceSub,reduceCtorEq,Int.reduceEq,Int.reduceNe,Int.reduceToNat,Int.reduceLT,Int.reduceLE,Int.reduceNeg,hl,ha0,hi0,ha1,hi1,hty0,hty1,c1,CL,LTN])) (by first | rfl | (simp -implicitDefEqProofs only [TT,Ic.t,Ic.ci,Nat.reduceEqDiff,reduceIte,Nat.reduceAdd,Nat.reduceMul,Nat.reduceLT,Nat.reduceLeDiff,Nat.reduceSub,reduceCtorEq,Int.reduceEq,Int.reduceNe,Int.reduceToNat,Int.reduceLT,Int.reduceLE,Int.reduceNeg,hl,ha0,hi0,ha1,hi1,hty0,hty1,c1,CL,LTN])) (by first | rfl | (simp -implicitDefEqProofs only [TT,Ic.t,Ic.ci,Nat.reduceEqDiff,reduceIte,Nat.reduceAdd,Nat.reduceMul,Nat.reduceLT,Nat.reduceLeDiff,Nat.reduceSub,reduceCtorEq,Int.reduceEq,Int.reduceNe,Int.reduceToNat,Int.reduceLT,Int.reduceLE,Int.reduceNeg,hl,ha0,hi0,ha1,hi1,hty0,hty1,c1,CL,LTN])) (by first | exact cut_ge (Nat.le_refl _) | (simp -implicitDefEqProofs only [TT,Ic.t,Ic.ci,Nat.reduceEqDiff,reduceIte,Nat.reduceAdd,Nat.reduceMul,Nat.reduceLT,Nat.reduceLeDiff,Nat.reduceSub,reduceCtorEq,Int.reduceEq,Int.reduceNe,Int.reduceToNat,Int.reduceLT,Int.reduceLE,Int.reduceNeg,hl,ha0,hi0,ha1,hi1,hty0,hty1,c1,CL,LTN]))
noncomputable def spec_Check_f (p1 : S_api_Spec) : Option Bool :=
  spec_name_f p1.ID >>= fun y1 =>
  if y1 = true then
    spec_in_f ((p1.Parties.length : Nat) : Int) (2 : Int) (6 : Int) >>= fun y4 =>
    if y4 = true then
      spec_in_f ((p1.Leaders.length : Nat) : Int) (1 : Int) (3 : Int) >>= fun y7 =>
      if y7 = true then
        spec_in_f ((p1.Arcs.length : Nat) : Int) (1 : Int) (12 : Int) >>= fun y10 =>
        if y10 = true then
          spec_sized_f p1.Locks ((p1.Leaders.length : Nat) : Int) (32 : Int) >>= fun y13 =>
          if y13 = true then
            spec_in_f p1.Start (0 : Int) (1099511627776 : Int) >>= fun y16 =>
            if y16 = true then
              spec_in_f p1.Delta (1 : Int) (1048576 : Int) >>= fun y19 =>
              if y19 = true then
                spec_Check_f_l1 p1 ((p1.Parties.length : Nat) : Int) ((p1.Leaders.length : Nat) : Int) p1.Parties ((p1.Parties.length : Nat) : Int) [] (0 : Int) >>= fun y22 =>
                match y22 with
                | .ex w23 =>
                  spec_Check_f_l2 p1 ((p1.Parties.length : Nat) : Int) w23 p1.Arcs ((p1.Arcs.length : Nat) : Int) [] (0 : Int) >>= fun y27 =>
                  match y27 with
                  | .ex w28 =>
                    spec_once_string_f w23 >>= fun y32 =>
                    if y32 = true then
                      spec_once_2_int_f w28 >>= fun y35 =>
                      if y35 = true then
                        spec_once_int_f p1.Leaders >>= fun y38 =>
                        if y38 = true then
                          slices_ContainsFunc_int_int_f p1.Leaders ((p1.Parties.length : Nat) : Int) >>= fun y41 =>
                          some (!y41)
                        else
                        some false
                      else
                      some false
                    else
                    some false
                  | .rt w30 =>
                    some w30
                | .rt w25 =>
                  some w25
              else
              some false
            else
            some false
          else
          some false
        else
        some false
      else
      some false
    else
    some false
  else
  some false
theorem spec_Check_f_s (p1 : S_api_Spec) (r : Bool) (h : spec_Check_f p1 = some r) (τ : TH) (hl : τ.lock ≤ τ.next) : Ru G F_spec_Check [.agg [.str p1.ID,.sl (List.map S_api_Party.tv p1.Parties),.sl (List.map S_api_Arc.tv p1.Arcs),.sl (List.map (TV.int .i64) p1.Leaders),.sl (List.map TV.str p1.Locks),.int .i64 p1.Start,.int .i64 p1.Delta]] τ (.bool r) τ := by
  refine Ru_of fun K hK => ?_
  rw [tC_code g_spec_Check (Nat.le_of_ble_eq_true rfl)]
  unfold spec_Check_f at h
  obtain ⟨y1,hy1,h⟩ := ob h
  have k2 := spec_name_f_k p1.ID _ hy1
  try simp only [CL,MC,Int.reduceToNat] at k2
  by_cases c3 : y1 = true
  · rw [if_pos c3] at h
    obtain ⟨y4,hy4,h⟩ := ob h
    have k5 := spec_in_f_k ((p1.Parties.length : Nat) : Int) (2 : Int) (6 : Int) _ hy4
    try simp only [CL,MC,Int.reduceToNat] at k5
    by_cases c6 : y4 = true
    · rw [if_pos c6] at h
      obtain ⟨y7,hy7,h⟩ := ob h
      have k8 := spec_in_f_k ((p1.Leaders.length : Nat) : Int) (1 : Int) (3 : Int) _ hy7
      try simp only [CL,MC,Int.reduceToNat] at k8
      by_cases c9 : y7 = true
      · rw [if_pos c9] at h
        obtain ⟨y10,hy10,h⟩ := ob h
        have k11 := spec_in_f_k ((p1.Arcs.length : Nat) : Int) (1 : Int) (12 : Int) _ hy10
        try simp only [CL,MC,Int.reduceToNat] at k11
        by_cases c12 : y10 = true
        · rw [if_pos c12] at h
          obtain ⟨y13,hy13,h⟩ := ob h
          have k14 := spec_sized_f_k p1.Locks ((p1.Leaders.length : Nat) : Int) (32 : Int) _ hy13
          try simp only [CL,MC,Int.reduceToNat] at k14
          by_cases c15 : y13 = true
          · rw [if_pos c15] at h
            obtain ⟨y16,hy16,h⟩ := ob h
            have k17 := spec_in_f_k p1.Start (0 : Int) (1099511627776 : Int) _ hy16
            try simp only [CL,MC,Int.reduceToNat] at k17
            by_cases c18 : y16 = true
            · rw [if_pos c18] at h
              obtain ⟨y19,hy19,h⟩ := ob h
              have k20 := spec_in_f_k p1.Delta (1 : Int) (1048576 : Int) _ hy19
              try simp only [CL,MC,Int.reduceToNat] at k20
              by_cases c21 : y19 = true
              · rw [if_pos c21] at h
                obtain ⟨y22,hy22,h⟩ := ob h
                simp -implicitDefEqProofs only [tPre_0,tPre_1,tPre_2,List.isEmpty_cons,tW_draw,tD,pnK,toldOf,List.filter_cons,List.filter_nil,List.filterMap_cons,List.filterMap_nil,staysTold,rdWhere,touch,freeOf,Ins.dsts,Ins.looks,I.ops,tmpsO,clsI,List.all_cons,List.all_nil,List.any_cons,List.any_nil,List.contains_cons,List.contains_nil,List.append_nil,List.nil_append,List.cons_append,Option.toList_some,Option.toList_none,Option.isSome_some,Option.isSome_none,Bool.and_true,Bool.true_and,Bool.and_false,Bool.false_and,Bool.or_false,Bool.false_or,Bool.or_true,Bool.true_or,Bool.not_false,Bool.not_true,and_true,true_and,and_false,false_and,Nat.reduceBEq,bne_iff_ne,U_spec_Check,TT,Ic.t,Ic.ci,Nat.reduceEqDiff,reduceIte,Nat.reduceAdd,Nat.reduceMul,Nat.reduceLT,Nat.reduceLeDiff,Nat.reduceSub,reduceCtorEq,Int.reduceEq,Int.reduceNe,Int.reduceToNat,Int.reduceLT,Int.reduceLE,Int.reduceNeg,hl,k2,c3,k5,c6,k8,c9,k11,c12,k14,c15,k17,c18,k20,c21,CL,LTN]
                have Sy22 := spec_Check_f_l1_s p1 ((p1.Parties.length : Nat) : Int) ((p1.Leaders.length : Nat) : Int) p1.Parties ((p1.Parties.length : Nat) : Int) [] (0 : Int) y22 hy22
                unfold spec_Check_f_l1_P at Sy22
                refine Sy22 _ τ.next (τ.next + 1) 0 0 (by first | rfl | simp [bytesL_len]) (by first | exact Or.inl rfl | exact Or.inr rfl | assumption | simp) (by first | assumption | omega | (simp only [next_pt,next_pu,lock_pt,lock_pu]; omega)) (by simp -implicitDefEqProofs only [TT,Ic.t,Ic.ci,Nat.reduceEqDiff,reduceIte,Nat.reduceAdd,Nat.reduceMul,Nat.reduceLT,Nat.reduceLeDiff,Nat.reduceSub,reduceCtorEq,Int.reduceEq,Int.reduceNe,Int.reduceToNat,Int.reduceLT,Int.reduceLE,Int.reduceNeg,hl,k2,c3,k5,c6,k8,c9,k11,c12,k14,c15,k17,c18,k20,c21,CL,LTN]) (by first | assumption | omega | (simp only [next_pt,next_pu,lock_pt,lock_pu]; omega)) (by simp -implicitDefEqProofs only [TT,Ic.t,Ic.ci,Nat.reduceEqDiff,reduceIte,Nat.reduceAdd,Nat.reduceMul,Nat.reduceLT,Nat.reduceLeDiff,Nat.reduceSub,reduceCtorEq,Int.reduceEq,Int.reduceNe,Int.reduceToNat,Int.reduceLT,Int.reduceLE,Int.reduceNeg,hl,k2,c3,k5,c6,k8,c9,k11,c12,k14,c15,k17,c18,k20,c21,CL,LTN]) (by first | assumption | omega | (simp only [next_pt,next_pu,lock_pt,lock_pu]; omega)) _ ?_ ?_
                · intro w23 e frq24 tkq24 τq24 u0q24 uh0q24 g1q24 g3q24 g5q24 htq24 hcq24
                  subst e
                  simp only at h
                  have hcq24 := cut_via (n := τ.next + 2) hcq24 (by first | omega | (simp only [next_pt,next_pu]; omega))
                  try simp only [List.take_succ_cons,List.take_zero,List.take_nil,CL] at htq24
                  try simp -implicitDefEqProofs only [TT,Ic.t,Ic.ci,Nat.reduceEqDiff,reduceIte,Nat.reduceAdd,Nat.reduceMul,Nat.reduceLT,Nat.reduceLeDiff,Nat.reduceSub,reduceCtorEq,Int.reduceEq,Int.reduceNe,Int.reduceToNat,Int.reduceLT,Int.reduceLE,Int.reduceNeg,hl,k2,c3,k5,c6,k8,c9,k11,c12,k14,c15,k17,c18,k20,c21,CL,LTN] at hcq24
                  obtain ⟨y27,hy27,h⟩ := ob h
                  simp -implicitDefEqProofs only [tPre_0,tPre_1,tPre_2,List.isEmpty_cons,tW_draw,tD,pnK,toldOf,List.filter_cons,List.filter_nil,List.filterMap_cons,List.filterMap_nil,staysTold,rdWhere,touch,freeOf,Ins.dsts,Ins.looks,I.ops,tmpsO,clsI,List.all_cons,List.all_nil,List.any_cons,List.any_nil,List.contains_cons,List.contains_nil,List.append_nil,List.nil_append,List.cons_append,Option.toList_some,Option.toList_none,Option.isSome_some,Option.isSome_none,Bool.and_true,Bool.true_and,Bool.and_false,Bool.false_and,Bool.or_false,Bool.false_or,Bool.or_true,Bool.true_or,Bool.not_false,Bool.not_true,and_true,true_and,and_false,false_and,Nat.reduceBEq,bne_iff_ne,U_spec_Check,TT,Ic.t,Ic.ci,Nat.reduceEqDiff,reduceIte,Nat.reduceAdd,Nat.reduceMul,Nat.reduceLT,Nat.reduceLeDiff,Nat.reduceSub,reduceCtorEq,Int.reduceEq,Int.reduceNe,Int.reduceToNat,Int.reduceLT,Int.reduceLE,Int.reduceNeg,hl,k2,c3,k5,c6,k8,c9,k11,c12,k14,c15,k17,c18,k20,c21,uh0q24,g1q24,g3q24,g5q24,htq24,hcq24,CL,LTN]
                  have Sy27 := spec_Check_f_l2_s p1 ((p1.Parties.length : Nat) : Int) w23 p1.Arcs ((p1.Arcs.length : Nat) : Int) [] (0 : Int) y27 hy27
                  unfold spec_Check_f_l2_P at Sy27
                  refine Sy27 _ τ.next (τ.next + 1) w23.length u0q24 (by first | rfl | simp [bytesL_len]) (by first | exact Or.inl rfl | exact Or.inr rfl | assumption | simp) 0 0 (by first | rfl | simp [bytesL_len]) (by first | exact Or.inl rfl | exact Or.inr rfl | assumption | simp) (by first | assumption | omega | (simp only [next_pt,next_pu,lock_pt,lock_pu]; omega)) (by simp -implicitDefEqProofs only [TT,Ic.t,Ic.ci,Nat.reduceEqDiff,reduceIte,Nat.reduceAdd,Nat.reduceMul,Nat.reduceLT,Nat.reduceLeDiff,Nat.reduceSub,reduceCtorEq,Int.reduceEq,Int.reduceNe,Int.reduceToNat,Int.reduceLT,Int.reduceLE,Int.reduceNeg,hl,k2,c3,k5,c6,k8,c9,k11,c12,k14,c15,k17,c18,k20,c21,uh0q24,g1q24,g3q24,g5q24,htq24,hcq24,CL,LTN]) (by first | assumption | omega | (simp only [next_pt,next_pu,lock_pt,lock_pu]; omega)) (by simp -implicitDefEqProofs only [TT,Ic.t,Ic.ci,Nat.reduceEqDiff,reduceIte,Nat.reduceAdd,Nat.reduceMul,Nat.reduceLT,Nat.reduceLeDiff,Nat.reduceSub,reduceCtorEq,Int.reduceEq,Int.reduceNe,Int.reduceToNat,Int.reduceLT,Int.reduceLE,Int.reduceNeg,hl,k2,c3,k5,c6,k8,c9,k11,c12,k14,c15,k17,c18,k20,c21,uh0q24,g1q24,g3q24,g5q24,htq24,hcq24,CL,LTN]) (by first | assumption | omega | (simp only [next_pt,next_pu,lock_pt,lock_pu]; omega)) _ ?_ ?_
                  · intro w28 e frq29 tkq29 τq29 u0q29 uh0q29 u1q29 uh1q29 g1q29 g3q29 g5q29 g8q29 htq29 hcq29
                    subst e
                    simp only at h
                    have hcq29 := cut_via (n := τ.next + 2) hcq29 (by first | omega | (simp only [next_pt,next_pu]; omega))
                    try simp only [List.take_succ_cons,List.take_zero,List.take_nil,CL] at htq29
                    try simp -implicitDefEqProofs only [TT,Ic.t,Ic.ci,Nat.reduceEqDiff,reduceIte,Nat.reduceAdd,Nat.reduceMul,Nat.reduceLT,Nat.reduceLeDiff,Nat.reduceSub,reduceCtorEq,Int.reduceEq,Int.reduceNe,Int.reduceToNat,Int.reduceLT,Int.reduceLE,Int.reduceNeg,hl,k2,c3,k5,c6,k8,c9,k11,c12,k14,c15,k17,c18,k20,c21,uh0q24,g1q24,g3q24,g5q24,htq24,hcq24,CL,LTN] at hcq29
                    obtain ⟨y32,hy32,h⟩ := ob h
                    have k33 := spec_once_string_f_k w23 _ hy32
                    try simp only [CL,MC,Int.reduceToNat] at k33
                    by_cases c34 : y32 = true
                    · rw [if_pos c34] at h
                      obtain ⟨y35,hy35,h⟩ := ob h
                      have k36 := spec_once_2_int_f_k w28 _ hy35
                      try simp only [CL,MC,Int.reduceToNat] at k36
                      by_cases c37 : y35 = true
                      · rw [if_pos c37] at h
                        obtain ⟨y38,hy38,h⟩ := ob h
                        have k39 := spec_once_int_f_k p1.Leaders _ hy38
                        try simp only [CL,MC,Int.reduceToNat] at k39
                        by_cases c40 : y38 = true
                        · rw [if_pos c40] at h
                          obtain ⟨y41,hy41,h⟩ := ob h
                          have k42 := slices_ContainsFunc_int_int_f_k p1.Leaders ((p1.Parties.length : Nat) : Int) _ hy41
                          try simp only [CL,MC,Int.reduceToNat] at k42
                          injection h with h; subst h
                          simp -implicitDefEqProofs only [tPre_0,tPre_1,tPre_2,List.isEmpty_cons,tW_draw,tD,pnK,toldOf,List.filter_cons,List.filter_nil,List.filterMap_cons,List.filterMap_nil,staysTold,rdWhere,touch,freeOf,Ins.dsts,Ins.looks,I.ops,tmpsO,clsI,List.all_cons,List.all_nil,List.any_cons,List.any_nil,List.contains_cons,List.contains_nil,List.append_nil,List.nil_append,List.cons_append,Option.toList_some,Option.toList_none,Option.isSome_some,Option.isSome_none,Bool.and_true,Bool.true_and,Bool.and_false,Bool.false_and,Bool.or_false,Bool.false_or,Bool.or_true,Bool.true_or,Bool.not_false,Bool.not_true,and_true,true_and,and_false,false_and,Nat.reduceBEq,bne_iff_ne,U_spec_Check,TT,Ic.t,Ic.ci,Nat.reduceEqDiff,reduceIte,Nat.reduceAdd,Nat.reduceMul,Nat.reduceLT,Nat.reduceLeDiff,Nat.reduceSub,reduceCtorEq,Int.reduceEq,Int.reduceNe,Int.reduceToNat,Int.reduceLT,Int.reduceLE,Int.reduceNeg,hl,k2,c3,k5,c6,k8,c9,k11,c12,k14,c15,k17,c18,k20,c21,uh0q24,g1q24,g3q24,g5q24,htq24,hcq24,uh0q29,uh1q29,g1q29,g3q29,g5q29,g8q29,htq29,hcq29,k33,c34,k36,c37,k39,c40,k42,CL,LTN]
                          exact hK
                        rw [if_neg c40] at h
                        have c40 := Bool.eq_false_iff.2 c40
                        injection h with h; subst h
                        simp -implicitDefEqProofs only [tPre_0,tPre_1,tPre_2,List.isEmpty_cons,tW_draw,tD,pnK,toldOf,List.filter_cons,List.filter_nil,List.filterMap_cons,List.filterMap_nil,staysTold,rdWhere,touch,freeOf,Ins.dsts,Ins.looks,I.ops,tmpsO,clsI,List.all_cons,List.all_nil,List.any_cons,List.any_nil,List.contains_cons,List.contains_nil,List.append_nil,List.nil_append,List.cons_append,Option.toList_some,Option.toList_none,Option.isSome_some,Option.isSome_none,Bool.and_true,Bool.true_and,Bool.and_false,Bool.false_and,Bool.or_false,Bool.false_or,Bool.or_true,Bool.true_or,Bool.not_false,Bool.not_true,and_true,true_and,and_false,false_and,Nat.reduceBEq,bne_iff_ne,U_spec_Check,TT,Ic.t,Ic.ci,Nat.reduceEqDiff,reduceIte,Nat.reduceAdd,Nat.reduceMul,Nat.reduceLT,Nat.reduceLeDiff,Nat.reduceSub,reduceCtorEq,Int.reduceEq,Int.reduceNe,Int.reduceToNat,Int.reduceLT,Int.reduceLE,Int.reduceNeg,hl,k2,c3,k5,c6,k8,c9,k11,c12,k14,c15,k17,c18,k20,c21,uh0q24,g1q24,g3q24,g5q24,htq24,hcq24,uh0q29,uh1q29,g1q29,g3q29,g5q29,g8q29,htq29,hcq29,k33,c34,k36,c37,k39,c40,CL,LTN]
                        exact hK
                      rw [if_neg c37] at h
                      have c37 := Bool.eq_false_iff.2 c37
                      injection h with h; subst h
                      simp -implicitDefEqProofs only [tPre_0,tPre_1,tPre_2,List.isEmpty_cons,tW_draw,tD,pnK,toldOf,List.filter_cons,List.filter_nil,List.filterMap_cons,List.filterMap_nil,staysTold,rdWhere,touch,freeOf,Ins.dsts,Ins.looks,I.ops,tmpsO,clsI,List.all_cons,List.all_nil,List.any_cons,List.any_nil,List.contains_cons,List.contains_nil,List.append_nil,List.nil_append,List.cons_append,Option.toList_some,Option.toList_none,Option.isSome_some,Option.isSome_none,Bool.and_true,Bool.true_and,Bool.and_false,Bool.false_and,Bool.or_false,Bool.false_or,Bool.or_true,Bool.true_or,Bool.not_false,Bool.not_true,and_true,true_and,and_false,false_and,Nat.reduceBEq,bne_iff_ne,U_spec_Check,TT,Ic.t,Ic.ci,Nat.reduceEqDiff,reduceIte,Nat.reduceAdd,Nat.reduceMul,Nat.reduceLT,Nat.reduceLeDiff,Nat.reduceSub,reduceCtorEq,Int.reduceEq,Int.reduceNe,Int.reduceToNat,Int.reduceLT,Int.reduceLE,Int.reduceNeg,hl,k2,c3,k5,c6,k8,c9,k11,c12,k14,c15,k17,c18,k20,c21,uh0q24,g1q24,g3q24,g5q24,htq24,hcq24,uh0q29,uh1q29,g1q29,g3q29,g5q29,g8q29,htq29,hcq29,k33,c34,k36,c37,CL,LTN]
                      exact hK
                    rw [if_neg c34] at h
                    have c34 := Bool.eq_false_iff.2 c34
                    injection h with h; subst h
                    simp -implicitDefEqProofs only [tPre_0,tPre_1,tPre_2,List.isEmpty_cons,tW_draw,tD,pnK,toldOf,List.filter_cons,List.filter_nil,List.filterMap_cons,List.filterMap_nil,staysTold,rdWhere,touch,freeOf,Ins.dsts,Ins.looks,I.ops,tmpsO,clsI,List.all_cons,List.all_nil,List.any_cons,List.any_nil,List.contains_cons,List.contains_nil,List.append_nil,List.nil_append,List.cons_append,Option.toList_some,Option.toList_none,Option.isSome_some,Option.isSome_none,Bool.and_true,Bool.true_and,Bool.and_false,Bool.false_and,Bool.or_false,Bool.false_or,Bool.or_true,Bool.true_or,Bool.not_false,Bool.not_true,and_true,true_and,and_false,false_and,Nat.reduceBEq,bne_iff_ne,U_spec_Check,TT,Ic.t,Ic.ci,Nat.reduceEqDiff,reduceIte,Nat.reduceAdd,Nat.reduceMul,Nat.reduceLT,Nat.reduceLeDiff,Nat.reduceSub,reduceCtorEq,Int.reduceEq,Int.reduceNe,Int.reduceToNat,Int.reduceLT,Int.reduceLE,Int.reduceNeg,hl,k2,c3,k5,c6,k8,c9,k11,c12,k14,c15,k17,c18,k20,c21,uh0q24,g1q24,g3q24,g5q24,htq24,hcq24,uh0q29,uh1q29,g1q29,g3q29,g5q29,g8q29,htq29,hcq29,k33,c34,CL,LTN]
                    exact hK
                  intro w30 e tkq31 τq31 hcq31
                  subst e
                  simp only at h
                  have hcq31 := cut_via (n := τ.next) hcq31 (by first | omega | (simp only [next_pt,next_pu]; omega))
                  try simp -implicitDefEqProofs only [TT,Ic.t,Ic.ci,Nat.reduceEqDiff,reduceIte,Nat.reduceAdd,Nat.reduceMul,Nat.reduceLT,Nat.reduceLeDiff,Nat.reduceSub,reduceCtorEq,Int.reduceEq,Int.reduceNe,Int.reduceToNat,Int.reduceLT,Int.reduceLE,Int.reduceNeg,hl,k2,c3,k5,c6,k8,c9,k11,c12,k14,c15,k17,c18,k20,c21,uh0q24,g1q24,g3q24,g5q24,htq24,hcq24,CL,LTN] at hcq31
                  injection h with h; subst h
                  simp -implicitDefEqProofs only [tPre_0,tPre_1,tPre_2,List.isEmpty_cons,tW_draw,tD,pnK,toldOf,List.filter_cons,List.filter_nil,List.filterMap_cons,List.filterMap_nil,staysTold,rdWhere,touch,freeOf,Ins.dsts,Ins.looks,I.ops,tmpsO,clsI,List.all_cons,List.all_nil,List.any_cons,List.any_nil,List.contains_cons,List.contains_nil,List.append_nil,List.nil_append,List.cons_append,Option.toList_some,Option.toList_none,Option.isSome_some,Option.isSome_none,Bool.and_true,Bool.true_and,Bool.and_false,Bool.false_and,Bool.or_false,Bool.false_or,Bool.or_true,Bool.true_or,Bool.not_false,Bool.not_true,and_true,true_and,and_false,false_and,Nat.reduceBEq,bne_iff_ne,U_spec_Check,TT,Ic.t,Ic.ci,Nat.reduceEqDiff,reduceIte,Nat.reduceAdd,Nat.reduceMul,Nat.reduceLT,Nat.reduceLeDiff,Nat.reduceSub,reduceCtorEq,Int.reduceEq,Int.reduceNe,Int.reduceToNat,Int.reduceLT,Int.reduceLE,Int.reduceNeg,hl,k2,c3,k5,c6,k8,c9,k11,c12,k14,c15,k17,c18,k20,c21,uh0q24,g1q24,g3q24,g5q24,htq24,hcq24,hcq31,CL,LTN]
                  exact hK
                intro w25 e tkq26 τq26 hcq26
                subst e
                simp only at h
                have hcq26 := cut_via (n := τ.next) hcq26 (by first | omega | (simp only [next_pt,next_pu]; omega))
                try simp -implicitDefEqProofs only [TT,Ic.t,Ic.ci,Nat.reduceEqDiff,reduceIte,Nat.reduceAdd,Nat.reduceMul,Nat.reduceLT,Nat.reduceLeDiff,Nat.reduceSub,reduceCtorEq,Int.reduceEq,Int.reduceNe,Int.reduceToNat,Int.reduceLT,Int.reduceLE,Int.reduceNeg,hl,k2,c3,k5,c6,k8,c9,k11,c12,k14,c15,k17,c18,k20,c21,CL,LTN] at hcq26
                injection h with h; subst h
                simp -implicitDefEqProofs only [tPre_0,tPre_1,tPre_2,List.isEmpty_cons,tW_draw,tD,pnK,toldOf,List.filter_cons,List.filter_nil,List.filterMap_cons,List.filterMap_nil,staysTold,rdWhere,touch,freeOf,Ins.dsts,Ins.looks,I.ops,tmpsO,clsI,List.all_cons,List.all_nil,List.any_cons,List.any_nil,List.contains_cons,List.contains_nil,List.append_nil,List.nil_append,List.cons_append,Option.toList_some,Option.toList_none,Option.isSome_some,Option.isSome_none,Bool.and_true,Bool.true_and,Bool.and_false,Bool.false_and,Bool.or_false,Bool.false_or,Bool.or_true,Bool.true_or,Bool.not_false,Bool.not_true,and_true,true_and,and_false,false_and,Nat.reduceBEq,bne_iff_ne,U_spec_Check,TT,Ic.t,Ic.ci,Nat.reduceEqDiff,reduceIte,Nat.reduceAdd,Nat.reduceMul,Nat.reduceLT,Nat.reduceLeDiff,Nat.reduceSub,reduceCtorEq,Int.reduceEq,Int.reduceNe,Int.reduceToNat,Int.reduceLT,Int.reduceLE,Int.reduceNeg,hl,k2,c3,k5,c6,k8,c9,k11,c12,k14,c15,k17,c18,k20,c21,hcq26,CL,LTN]
                exact hK
              rw [if_neg c21] at h
              have c21 := Bool.eq_false_iff.2 c21
              injection h with h; subst h
              simp -implicitDefEqProofs only [tPre_0,tPre_1,tPre_2,List.isEmpty_cons,tW_draw,tD,pnK,toldOf,List.filter_cons,List.filter_nil,List.filterMap_cons,List.filterMap_nil,staysTold,rdWhere,touch,freeOf,Ins.dsts,Ins.looks,I.ops,tmpsO,clsI,List.all_cons,List.all_nil,List.any_cons,List.any_nil,List.contains_cons,List.contains_nil,List.append_nil,List.nil_append,List.cons_append,Option.toList_some,Option.toList_none,Option.isSome_some,Option.isSome_none,Bool.and_true,Bool.true_and,Bool.and_false,Bool.false_and,Bool.or_false,Bool.false_or,Bool.or_true,Bool.true_or,Bool.not_false,Bool.not_true,and_true,true_and,and_false,false_and,Nat.reduceBEq,bne_iff_ne,U_spec_Check,TT,Ic.t,Ic.ci,Nat.reduceEqDiff,reduceIte,Nat.reduceAdd,Nat.reduceMul,Nat.reduceLT,Nat.reduceLeDiff,Nat.reduceSub,reduceCtorEq,Int.reduceEq,Int.reduceNe,Int.reduceToNat,Int.reduceLT,Int.reduceLE,Int.reduceNeg,hl,k2,c3,k5,c6,k8,c9,k11,c12,k14,c15,k17,c18,k20,c21,CL,LTN]
              exact hK
            rw [if_neg c18] at h
            have c18 := Bool.eq_false_iff.2 c18
            injection h with h; subst h
            simp -implicitDefEqProofs only [tPre_0,tPre_1,tPre_2,List.isEmpty_cons,tW_draw,tD,pnK,toldOf,List.filter_cons,List.filter_nil,List.filterMap_cons,List.filterMap_nil,staysTold,rdWhere,touch,freeOf,Ins.dsts,Ins.looks,I.ops,tmpsO,clsI,List.all_cons,List.all_nil,List.any_cons,List.any_nil,List.contains_cons,List.contains_nil,List.append_nil,List.nil_append,List.cons_append,Option.toList_some,Option.toList_none,Option.isSome_some,Option.isSome_none,Bool.and_true,Bool.true_and,Bool.and_false,Bool.false_and,Bool.or_false,Bool.false_or,Bool.or_true,Bool.true_or,Bool.not_false,Bool.not_true,and_true,true_and,and_false,false_and,Nat.reduceBEq,bne_iff_ne,U_spec_Check,TT,Ic.t,Ic.ci,Nat.reduceEqDiff,reduceIte,Nat.reduceAdd,Nat.reduceMul,Nat.reduceLT,Nat.reduceLeDiff,Nat.reduceSub,reduceCtorEq,Int.reduceEq,Int.reduceNe,Int.reduceToNat,Int.reduceLT,Int.reduceLE,Int.reduceNeg,hl,k2,c3,k5,c6,k8,c9,k11,c12,k14,c15,k17,c18,CL,LTN]
            exact hK
          rw [if_neg c15] at h
          have c15 := Bool.eq_false_iff.2 c15
          injection h with h; subst h
          simp -implicitDefEqProofs only [tPre_0,tPre_1,tPre_2,List.isEmpty_cons,tW_draw,tD,pnK,toldOf,List.filter_cons,List.filter_nil,List.filterMap_cons,List.filterMap_nil,staysTold,rdWhere,touch,freeOf,Ins.dsts,Ins.looks,I.ops,tmpsO,clsI,List.all_cons,List.all_nil,List.any_cons,List.any_nil,List.contains_cons,List.contains_nil,List.append_nil,List.nil_append,List.cons_append,Option.toList_some,Option.toList_none,Option.isSome_some,Option.isSome_none,Bool.and_true,Bool.true_and,Bool.and_false,Bool.false_and,Bool.or_false,Bool.false_or,Bool.or_true,Bool.true_or,Bool.not_false,Bool.not_true,and_true,true_and,and_false,false_and,Nat.reduceBEq,bne_iff_ne,U_spec_Check,TT,Ic.t,Ic.ci,Nat.reduceEqDiff,reduceIte,Nat.reduceAdd,Nat.reduceMul,Nat.reduceLT,Nat.reduceLeDiff,Nat.reduceSub,reduceCtorEq,Int.reduceEq,Int.reduceNe,Int.reduceToNat,Int.reduceLT,Int.reduceLE,Int.reduceNeg,hl,k2,c3,k5,c6,k8,c9,k11,c12,k14,c15,CL,LTN]
          exact hK
        rw [if_neg c12] at h
        have c12 := Bool.eq_false_iff.2 c12
        injection h with h; subst h
        simp -implicitDefEqProofs only [tPre_0,tPre_1,tPre_2,List.isEmpty_cons,tW_draw,tD,pnK,toldOf,List.filter_cons,List.filter_nil,List.filterMap_cons,List.filterMap_nil,staysTold,rdWhere,touch,freeOf,Ins.dsts,Ins.looks,I.ops,tmpsO,clsI,List.all_cons,List.all_nil,List.any_cons,List.any_nil,List.contains_cons,List.contains_nil,List.append_nil,List.nil_append,List.cons_append,Option.toList_some,Option.toList_none,Option.isSome_some,Option.isSome_none,Bool.and_true,Bool.true_and,Bool.and_false,Bool.false_and,Bool.or_false,Bool.false_or,Bool.or_true,Bool.true_or,Bool.not_false,Bool.not_true,and_true,true_and,and_false,false_and,Nat.reduceBEq,bne_iff_ne,U_spec_Check,TT,Ic.t,Ic.ci,Nat.reduceEqDiff,reduceIte,Nat.reduceAdd,Nat.reduceMul,Nat.reduceLT,Nat.reduceLeDiff,Nat.reduceSub,reduceCtorEq,Int.reduceEq,Int.reduceNe,Int.reduceToNat,Int.reduceLT,Int.reduceLE,Int.reduceNeg,hl,k2,c3,k5,c6,k8,c9,k11,c12,CL,LTN]
        exact hK
      rw [if_neg c9] at h
      have c9 := Bool.eq_false_iff.2 c9
      injection h with h; subst h
      simp -implicitDefEqProofs only [tPre_0,tPre_1,tPre_2,List.isEmpty_cons,tW_draw,tD,pnK,toldOf,List.filter_cons,List.filter_nil,List.filterMap_cons,List.filterMap_nil,staysTold,rdWhere,touch,freeOf,Ins.dsts,Ins.looks,I.ops,tmpsO,clsI,List.all_cons,List.all_nil,List.any_cons,List.any_nil,List.contains_cons,List.contains_nil,List.append_nil,List.nil_append,List.cons_append,Option.toList_some,Option.toList_none,Option.isSome_some,Option.isSome_none,Bool.and_true,Bool.true_and,Bool.and_false,Bool.false_and,Bool.or_false,Bool.false_or,Bool.or_true,Bool.true_or,Bool.not_false,Bool.not_true,and_true,true_and,and_false,false_and,Nat.reduceBEq,bne_iff_ne,U_spec_Check,TT,Ic.t,Ic.ci,Nat.reduceEqDiff,reduceIte,Nat.reduceAdd,Nat.reduceMul,Nat.reduceLT,Nat.reduceLeDiff,Nat.reduceSub,reduceCtorEq,Int.reduceEq,Int.reduceNe,Int.reduceToNat,Int.reduceLT,Int.reduceLE,Int.reduceNeg,hl,k2,c3,k5,c6,k8,c9,CL,LTN]
      exact hK
    rw [if_neg c6] at h
    have c6 := Bool.eq_false_iff.2 c6
    injection h with h; subst h
    simp -implicitDefEqProofs only [tPre_0,tPre_1,tPre_2,List.isEmpty_cons,tW_draw,tD,pnK,toldOf,List.filter_cons,List.filter_nil,List.filterMap_cons,List.filterMap_nil,staysTold,rdWhere,touch,freeOf,Ins.dsts,Ins.looks,I.ops,tmpsO,clsI,List.all_cons,List.all_nil,List.any_cons,List.any_nil,List.contains_cons,List.contains_nil,List.append_nil,List.nil_append,List.cons_append,Option.toList_some,Option.toList_none,Option.isSome_some,Option.isSome_none,Bool.and_true,Bool.true_and,Bool.and_false,Bool.false_and,Bool.or_false,Bool.false_or,Bool.or_true,Bool.true_or,Bool.not_false,Bool.not_true,and_true,true_and,and_false,false_and,Nat.reduceBEq,bne_iff_ne,U_spec_Check,TT,Ic.t,Ic.ci,Nat.reduceEqDiff,reduceIte,Nat.reduceAdd,Nat.reduceMul,Nat.reduceLT,Nat.reduceLeDiff,Nat.reduceSub,reduceCtorEq,Int.reduceEq,Int.reduceNe,Int.reduceToNat,Int.reduceLT,Int.reduceLE,Int.reduceNeg,hl,k2,c3,k5,c6,CL,LTN]
    exact hK
  rw [if_neg c3] at h
  have c3 := Bool.eq_false_iff.2 c3
  injection h with h; subst h
  simp -implicitDefEqProofs only [tPre_0,tPre_1,tPre_2,List.isEmpty_cons,tW_draw,tD,pnK,toldOf,List.filter_cons,List.filter_nil,List.filterMap_cons,List.filterMap_nil,staysTold,rdWhere,touch,freeOf,Ins.dsts,Ins.looks,I.ops,tmpsO,clsI,List.all_cons,List.all_nil,List.any_cons,List.any_nil,List.contains_cons,List.contains_nil,List.append_nil,List.nil_append,List.cons_append,Option.toList_some,Option.toList_none,Option.isSome_some,Option.isSome_none,Bool.and_true,Bool.true_and,Bool.and_false,Bool.false_and,Bool.or_false,Bool.false_or,Bool.or_true,Bool.true_or,Bool.not_false,Bool.not_true,and_true,true_and,and_false,false_and,Nat.reduceBEq,bne_iff_ne,U_spec_Check,TT,Ic.t,Ic.ci,Nat.reduceEqDiff,reduceIte,Nat.reduceAdd,Nat.reduceMul,Nat.reduceLT,Nat.reduceLeDiff,Nat.reduceSub,reduceCtorEq,Int.reduceEq,Int.reduceNe,Int.reduceToNat,Int.reduceLT,Int.reduceLE,Int.reduceNeg,hl,k2,c3,CL,LTN]
  exact hK
theorem spec_Check_f_k (p1 : S_api_Spec) (r : Bool) (h : spec_Check_f p1 = some r) (lk : Bool) (d : Option Nat) (K : TCont) (fr : TF) (tk : TK) (τ : TH) (hl : τ.lock ≤ τ.next) : callK G lk F_spec_Check [.agg [.str p1.ID,.sl (List.map S_api_Party.tv p1.Parties),.sl (List.map S_api_Arc.tv p1.Arcs),.sl (List.map (TV.int .i64) p1.Leaders),.sl (List.map TV.str p1.Locks),.int .i64 p1.Start,.int .i64 p1.Delta]] d K fr tk τ = K (tput fr d (.bool r)) tk τ :=
  callK_rdo (spec_Check_f_s p1 r h τ  hl) (spec_Check_f_s p1 r h (τ.locked τ.next)  (Nat.le_refl _) ) (by simp -implicitDefEqProofs only [TT,Ic.t,Ic.ci,Nat.reduceEqDiff,reduceIte,Nat.reduceAdd,Nat.reduceMul,Nat.reduceLT,Nat.reduceLeDiff,Nat.reduceSub,reduceCtorEq,Int.reduceEq,Int.reduceNe,Int.reduceToNat,Int.reduceLT,Int.reduceLE,Int.reduceNeg,hl,CL,LTN])
noncomputable def when_times_at_f (p1 : S_api_Spec) (p2 : Int) : Option Int :=
  some (IntKind.i64.wrap (p1.Start + (IntKind.i64.wrap (p2 * p1.Delta))))
theorem when_times_at_f_s (p1 : S_api_Spec) (p2 : Int) (r : Int) (h : when_times_at_f p1 p2 = some r) (τ : TH) (hl : τ.lock ≤ τ.next) : Ru G F_when_times_at [.agg [.str p1.ID,.sl (List.map S_api_Party.tv p1.Parties),.sl (List.map S_api_Arc.tv p1.Arcs),.sl (List.map (TV.int .i64) p1.Leaders),.sl (List.map TV.str p1.Locks),.int .i64 p1.Start,.int .i64 p1.Delta],.int .i64 p2] τ (.int .i64 r) τ := by
  refine Ru_of fun K hK => ?_
  rw [tC_code g_when_times_at (Nat.le_of_ble_eq_true rfl)]
  unfold when_times_at_f at h
  injection h with h; subst h
  simp -implicitDefEqProofs only [U_when_times_at,TT,Ic.t,Ic.ci,Nat.reduceEqDiff,reduceIte,Nat.reduceAdd,Nat.reduceMul,Nat.reduceLT,Nat.reduceLeDiff,Nat.reduceSub,reduceCtorEq,Int.reduceEq,Int.reduceNe,Int.reduceToNat,Int.reduceLT,Int.reduceLE,Int.reduceNeg,hl,CL,LTN]
  exact hK
theorem when_times_at_f_k (p1 : S_api_Spec) (p2 : Int) (r : Int) (h : when_times_at_f p1 p2 = some r) (lk : Bool) (d : Option Nat) (K : TCont) (fr : TF) (tk : TK) (τ : TH) (hl : τ.lock ≤ τ.next) : callK G lk F_when_times_at [.agg [.str p1.ID,.sl (List.map S_api_Party.tv p1.Parties),.sl (List.map S_api_Arc.tv p1.Arcs),.sl (List.map (TV.int .i64) p1.Leaders),.sl (List.map TV.str p1.Locks),.int .i64 p1.Start,.int .i64 p1.Delta],.int .i64 p2] d K fr tk τ = K (tput fr d (.int .i64 r)) tk τ :=
  callK_rdo (when_times_at_f_s p1 p2 r h τ  hl) (when_times_at_f_s p1 p2 r h (τ.locked τ.next)  (Nat.le_refl _) ) (by simp -implicitDefEqProofs only [TT,Ic.t,Ic.ci,Nat.reduceEqDiff,reduceIte,Nat.reduceAdd,Nat.reduceMul,Nat.reduceLT,Nat.reduceLeDiff,Nat.reduceSub,reduceCtorEq,Int.reduceEq,Int.reduceNe,Int.reduceToNat,Int.reduceLT,Int.reduceLE,Int.reduceNeg,hl,CL,LTN])
noncomputable def when_of_f (p1 : S_api_Spec) (p2 : Int) : Option Int :=
  spec_Check_f p1 >>= fun y1 =>
  if y1 = true then
    when_times_at_f p1 p2 >>= fun y4 =>
    some y4
  else
  some (0 : Int)
theorem when_of_f_s (p1 : S_api_Spec) (p2 : Int) (r : Int) (h : when_of_f p1 p2 = some r) (τ : TH) (hl : τ.lock ≤ τ.next) : Ru G F_when_of [.agg [.str p1.ID,.sl (List.map S_api_Party.tv p1.Parties),.sl (List.map S_api_Arc.tv p1.Arcs),.sl (List.map (TV.int .i64) p1.Leaders),.sl (List.map TV.str p1.Locks),.int .i64 p1.Start,.int .i64 p1.Delta],.int .i64 p2] τ (.int .i64 r) τ := by
  refine Ru_of fun K hK => ?_
  rw [tC_code g_when_of (Nat.le_of_ble_eq_true rfl)]
  unfold when_of_f at h
  obtain ⟨y1,hy1,h⟩ := ob h
  have k2 := spec_Check_f_k p1 _ hy1
  try simp only [CL,MC,Int.reduceToNat] at k2
  by_cases c3 : y1 = true
  · rw [if_pos c3] at h
    obtain ⟨y4,hy4,h⟩ := ob h
    have k5 := when_times_at_f_k p1 p2 _ hy4
    try simp only [CL,MC,Int.reduceToNat] at k5
    injection h with h; subst h
    simp -implicitDefEqProofs only [U_when_of,TT,Ic.t,Ic.ci,Nat.reduceEqDiff,reduceIte,Nat.reduceAdd,Nat.reduceMul,Nat.reduceLT,Nat.reduceLeDiff,Nat.reduceSub,reduceCtorEq,Int.reduceEq,Int.reduceNe,Int.reduceToNat,Int.reduceLT,Int.reduceLE,Int.reduceNeg,hl,k2,c3,k5,CL,LTN]
    exact hK
  rw [if_neg c3] at h
  have c3 := Bool.eq_false_iff.2 c3
  injection h with h; subst h
  simp -implicitDefEqProofs only [U_when_of,TT,Ic.t,Ic.ci,Nat.reduceEqDiff,reduceIte,Nat.reduceAdd,Nat.reduceMul,Nat.reduceLT,Nat.reduceLeDiff,Nat.reduceSub,reduceCtorEq,Int.reduceEq,Int.reduceNe,Int.reduceToNat,Int.reduceLT,Int.reduceLE,Int.reduceNeg,hl,k2,c3,CL,LTN]
  exact hK
theorem when_of_f_k (p1 : S_api_Spec) (p2 : Int) (r : Int) (h : when_of_f p1 p2 = some r) (lk : Bool) (d : Option Nat) (K : TCont) (fr : TF) (tk : TK) (τ : TH) (hl : τ.lock ≤ τ.next) : callK G lk F_when_of [.agg [.str p1.ID,.sl (List.map S_api_Party.tv p1.Parties),.sl (List.map S_api_Arc.tv p1.Arcs),.sl (List.map (TV.int .i64) p1.Leaders),.sl (List.map TV.str p1.Locks),.int .i64 p1.Start,.int .i64 p1.Delta],.int .i64 p2] d K fr tk τ = K (tput fr d (.int .i64 r)) tk τ :=
  callK_rdo (when_of_f_s p1 p2 r h τ  hl) (when_of_f_s p1 p2 r h (τ.locked τ.next)  (Nat.le_refl _) ) (by simp -implicitDefEqProofs only [TT,Ic.t,Ic.ci,Nat.reduceEqDiff,reduceIte,Nat.reduceAdd,Nat.reduceMul,Nat.reduceLT,Nat.reduceLeDiff,Nat.reduceSub,reduceCtorEq,Int.reduceEq,Int.reduceNe,Int.reduceToNat,Int.reduceLT,Int.reduceLE,Int.reduceNeg,hl,CL,LTN])
noncomputable def when_Deadline_f (p1 : S_api_Spec) (p2 : Int) : Option Int :=
  when_of_f p1 (IntKind.i64.wrap ((IntKind.i64.wrap (((p1.Parties.length : Nat) : Int) + (if (1 : Int) < (if ((p1.Parties.length : Nat) : Int) < p2 then ((p1.Parties.length : Nat) : Int) else p2) then (if ((p1.Parties.length : Nat) : Int) < p2 then ((p1.Parties.length : Nat) : Int) else p2) else (1 : Int)))) - (1 : Int))) >>= fun y1 =>
  some y1
theorem when_Deadline_f_s (p1 : S_api_Spec) (p2 : Int) (r : Int) (h : when_Deadline_f p1 p2 = some r) (τ : TH) (hl : τ.lock ≤ τ.next) : Ru G F_when_Deadline [.agg [.str p1.ID,.sl (List.map S_api_Party.tv p1.Parties),.sl (List.map S_api_Arc.tv p1.Arcs),.sl (List.map (TV.int .i64) p1.Leaders),.sl (List.map TV.str p1.Locks),.int .i64 p1.Start,.int .i64 p1.Delta],.int .i64 p2] τ (.int .i64 r) τ := by
  refine Ru_of fun K hK => ?_
  rw [tC_code g_when_Deadline (Nat.le_of_ble_eq_true rfl)]
  unfold when_Deadline_f at h
  obtain ⟨y1,hy1,h⟩ := ob h
  have k2 := when_of_f_k p1 (IntKind.i64.wrap ((IntKind.i64.wrap (((p1.Parties.length : Nat) : Int) + (if (1 : Int) < (if ((p1.Parties.length : Nat) : Int) < p2 then ((p1.Parties.length : Nat) : Int) else p2) then (if ((p1.Parties.length : Nat) : Int) < p2 then ((p1.Parties.length : Nat) : Int) else p2) else (1 : Int)))) - (1 : Int))) _ hy1
  try simp only [CL,MC,Int.reduceToNat] at k2
  injection h with h; subst h
  simp -implicitDefEqProofs only [U_when_Deadline,TT,Ic.t,Ic.ci,Nat.reduceEqDiff,reduceIte,Nat.reduceAdd,Nat.reduceMul,Nat.reduceLT,Nat.reduceLeDiff,Nat.reduceSub,reduceCtorEq,Int.reduceEq,Int.reduceNe,Int.reduceToNat,Int.reduceLT,Int.reduceLE,Int.reduceNeg,hl,k2,CL,LTN]
  exact hK
theorem when_Deadline_f_k (p1 : S_api_Spec) (p2 : Int) (r : Int) (h : when_Deadline_f p1 p2 = some r) (lk : Bool) (d : Option Nat) (K : TCont) (fr : TF) (tk : TK) (τ : TH) (hl : τ.lock ≤ τ.next) : callK G lk F_when_Deadline [.agg [.str p1.ID,.sl (List.map S_api_Party.tv p1.Parties),.sl (List.map S_api_Arc.tv p1.Arcs),.sl (List.map (TV.int .i64) p1.Leaders),.sl (List.map TV.str p1.Locks),.int .i64 p1.Start,.int .i64 p1.Delta],.int .i64 p2] d K fr tk τ = K (tput fr d (.int .i64 r)) tk τ :=
  callK_rdo (when_Deadline_f_s p1 p2 r h τ  hl) (when_Deadline_f_s p1 p2 r h (τ.locked τ.next)  (Nat.le_refl _) ) (by simp -implicitDefEqProofs only [TT,Ic.t,Ic.ci,Nat.reduceEqDiff,reduceIte,Nat.reduceAdd,Nat.reduceMul,Nat.reduceLT,Nat.reduceLeDiff,Nat.reduceSub,reduceCtorEq,Int.reduceEq,Int.reduceNe,Int.reduceToNat,Int.reduceLT,Int.reduceLE,Int.reduceNeg,hl,CL,LTN])
noncomputable def when_Table_f_l1_step (v0 : S_api_Spec) (v2 : Int) (v1 : (List Int)) (v3 : Int) : Option (LS ((List Int) × Int) ((List Int))) :=
  if v3 < v2 then
    when_Deadline_f v0 (IntKind.i64.wrap (v3 + (1 : Int))) >>= fun y2 =>
    if (v1.length + 1) * 8 ≤ 140737488355328 then
      some (.nx ((v1 ++ [y2]),(IntKind.i64.wrap (v3 + (1 : Int)))))
    else
      none
  else
  some (.dn v1)
noncomputable def when_Table_f_l1 (v0 : S_api_Spec) (v2 : Int) (v1 : (List Int)) (v3 : Int) : Option ((List Int)) := iterO (fun st => when_Table_f_l1_step v0 v2 st.1 st.2) (v1,v3)
theorem when_Table_f_l1_eq (v0 : S_api_Spec) (v2 : Int) (v1 : (List Int)) (v3 : Int) : when_Table_f_l1 v0 v2 v1 v3 = when_Table_f_l1_step v0 v2 v1 v3 >>= LS.go (fun st => when_Table_f_l1 v0 v2 st.1 st.2) := iterO_eq (fun st => when_Table_f_l1_step v0 v2 st.1 st.2) (v1,v3)
def when_Table_f_l1_P (v0 : S_api_Spec) (v2 : Int) (v1 : (List Int)) (v3 : Int) (r : (List Int)) : Prop := ∀ (τ : TH) (o0 : Nat) (n0 : Nat) (ty0 : TypeId) (hnn0 : n0 = v1.length) (hty0 : n0 = 0 ∨ ty0 = T_int) (hl : τ.lock ≤ τ.next) (ha0 : τ.at o0 = some ⟨T_api_Spec,[.str v0.ID,.sl (List.map S_api_Party.tv v0.Parties),.sl (List.map S_api_Arc.tv v0.Arcs),.sl (List.map (TV.int .i64) v0.Leaders),.sl (List.map TV.str v0.Locks),.int .i64 v0.Start,.int .i64 v0.Delta]⟩) (hi0 : o0 < τ.next) (Q : TEx → TCont) (hQ0 : ∀ (fr : TF) (tk2 : TK) (τ2 : TH),∀ (u0 : TypeId),(r.length = 0 ∨ u0 = T_int) → lkp fr 3 = .sla 0 (List.map (TV.int .i64) r) → tk2.take 1 = [some (r.length,u0)] → τ2.cut τ.next = τ → Q (.exit 0) fr tk2 τ2) ,tW G (.loop [1,3,10,11] l_when_Table_1) Q [(1,.ptr o0 0),(3,.sla 0 (List.map (TV.int .i64) v1)),(10,.int .i64 v2),(11,.int .i64 v3)] [some (n0,ty0)] τ
theorem when_Table_f_l1_s (v0 : S_api_Spec) (v2 : Int) (v1 : (List Int)) (v3 : Int) (r : (List Int)) (h : when_Table_f_l1 v0 v2 v1 v3 = some r) : when_Table_f_l1_P v0 v2 v1 v3 r := by
  refine iterO_ind (f := fun st => when_Table_f_l1_step v0 v2 st.1 st.2) (P := fun st r => ∀ (v1 : (List Int)) (v3 : Int),(v1,v3) = st → when_Table_f_l1_P v0 v2 v1 v3 r) ?_ h v1 v3 rfl
  clear h r v3 v1
  intro st o h r ih v1 v3 hst τ o0  n0 ty0 hnn0 hty0 hl ha0 hi0 Q hQ0
  subst hst
  have h : when_Table_f_l1_step v0 v2 v1 v3 = some o := h
  unfold when_Table_f_l1_step at h
  subst hnn0
  refine tW_lp fun LQ hn hr he => ?_
  by_cases c1 : v3 < v2
  · rw [if_pos c1] at h
    obtain ⟨y2,hy2,h⟩ := ob h
    have k3 := when_Deadline_f_k v0 (IntKind.i64.wrap (v3 + (1 : Int))) _ hy2
    try simp only [CL,MC,Int.reduceToNat] at k3
    obtain ⟨c4,h⟩ := ifS h
    have f5 : 1 ≤ maxLen := by unfold maxLen; omega
    have f6 : v1.length + 1 ≤ maxLen := by unfold maxLen; omega
    have f7 : ((List.map (TV.int .i64) v1).all fun e => e.cells.length == 1) = true := allc (fun _ => rfl) _
    have f8 : List.map (TV.int .i64) v1 ++ List.map (TV.int .i64) [y2] = List.map (TV.int .i64) (v1 ++ [y2]) := appn _ _
    try simp only [CL,List.map_cons,List.map_nil] at f8
    injection h with h; subst h
    have ih := ih (v1 ++ [y2]) (IntKind.i64.wrap (v3 + (1 : Int))) rfl
    unfold when_Table_f_l1_P at ih
    simp -implicitDefEqProofs only [l_when_Table_1,U_when_Table,TT,Ic.t,Ic.ci,Nat.reduceEqDiff,reduceIte,Nat.reduceAdd,Nat.reduceMul,Nat.reduceLT,Nat.reduceLeDiff,Nat.reduceSub,reduceCtorEq,Int.reduceEq,Int.reduceNe,Int.reduceToNat,Int.reduceLT,Int.reduceLE,Int.reduceNeg,hl,ha0,hi0,hty0,c1,k3,c4,f5,f6,f7,f8,CL,LTN]
    rw [hn]
    simp -implicitDefEqProofs only [TT,Ic.t,Ic.ci,Nat.reduceEqDiff,reduceIte,Nat.reduceAdd,Nat.reduceMul,Nat.reduceLT,Nat.reduceLeDiff,Nat.reduceSub,reduceCtorEq,Int.reduceEq,Int.reduceNe,Int.reduceToNat,Int.reduceLT,Int.reduceLE,Int.reduceNeg,hl,ha0,hi0,hty0,c1,k3,c4,f5,f6,f7,f8,CL,LTN]
    exact ih  τ o0  (v1.length + 1) T_int (by first | rfl | simp [bytesL_len]) (by first | exact hty0 | exact Or.inr rfl | simp) (by first | assumption | (simp only [next_pt,lock_pt]; assumption)) (by simp -implicitDefEqProofs only [TT,Ic.t,Ic.ci,Nat.reduceEqDiff,reduceIte,Nat.reduceAdd,Nat.reduceMul,Nat.reduceLT,Nat.reduceLeDiff,Nat.reduceSub,reduceCtorEq,Int.reduceEq,Int.reduceNe,Int.reduceToNat,Int.reduceLT,Int.reduceLE,Int.reduceNeg,hl,ha0,hi0,hty0,c1,k3,c4,f5,f6,f7,f8,CL,LTN]) (by first | assumption | (simp only [next_pt,lock_pt]; assumption)) Q hQ0
  rw [if_neg c1] at h
  injection h with h; subst h
  obtain rfl : _ = r := ih
  simp -implicitDefEqProofs only [l_when_Table_1,U_when_Table,TT,Ic.t,Ic.ci,Nat.reduceEqDiff,reduceIte,Nat.reduceAdd,Nat.reduceMul,Nat.reduceLT,Nat.reduceLeDiff,Nat.reduceSub,reduceCtorEq,Int.reduceEq,Int.reduceNe,Int.reduceToNat,Int.reduceLT,Int.reduceLE,Int.reduceNeg,hl,ha0,hi0,hty0,he,hr,c1,CL,LTN]
  exact hQ0  _ _ _ ty0 (by first | exact hty0 | exact Or.inr rfl | simp) (by first | rfl | (simp -implicitDefEqProofs only [TT,Ic.t,Ic.ci,Nat.reduceEqDiff,reduceIte,Nat.reduceAdd,Nat.reduceMul,Nat.reduceLT,Nat.reduceLeDiff,Nat.reduceSub,reduceCtorEq,Int.reduceEq,Int.reduceNe,Int.reduceToNat,Int.reduceLT,Int.reduceLE,Int.reduceNeg,hl,ha0,hi0,hty0,c1,CL,LTN])) (by first | rfl | (simp -implicitDefEqProofs only [TT,Ic.t,Ic.ci,Nat.reduceEqDiff,reduceIte,Nat.reduceAdd,Nat.reduceMul,Nat.reduceLT,Nat.reduceLeDiff,Nat.reduceSub,reduceCtorEq,Int.reduceEq,Int.reduceNe,Int.reduceToNat,Int.reduceLT,Int.reduceLE,Int.reduceNeg,hl,ha0,hi0,hty0,c1,CL,LTN])) (by first | exact cut_ge (Nat.le_refl _) | (simp -implicitDefEqProofs only [TT,Ic.t,Ic.ci,Nat.reduceEqDiff,reduceIte,Nat.reduceAdd,Nat.reduceMul,Nat.reduceLT,Nat.reduceLeDiff,Nat.reduceSub,reduceCtorEq,Int.reduceEq,Int.reduceNe,Int.reduceToNat,Int.reduceLT,Int.reduceLE,Int.reduceNeg,hl,ha0,hi0,hty0,c1,CL,LTN]))
noncomputable def when_Table_f (p1 : S_api_Spec) : Option (List Int) :=
  spec_Check_f p1 >>= fun y1 =>
  if y1 = true then
    when_Table_f_l1 p1 ((p1.Parties.length : Nat) : Int) [] (0 : Int) >>= fun y4 =>
    some y4
  else
  some []
theorem when_Table_f_s (p1 : S_api_Spec) (r : (List Int)) (h : when_Table_f p1 = some r) (τ : TH) (hl : τ.lock ≤ τ.next) : Ru G F_when_Table [.agg [.str p1.ID,.sl (List.map S_api_Party.tv p1.Parties),.sl (List.map S_api_Arc.tv p1.Arcs),.sl (List.map (TV.int .i64) p1.Leaders),.sl (List.map TV.str p1.Locks),.int .i64 p1.Start,.int .i64 p1.Delta]] τ (.sl (List.map (TV.int .i64) r)) τ := by
  refine Ru_of fun K hK => ?_
  rw [tC_code g_when_Table (Nat.le_of_ble_eq_true rfl)]
  unfold when_Table_f at h
  obtain ⟨y1,hy1,h⟩ := ob h
  have k2 := spec_Check_f_k p1 _ hy1
  try simp only [CL,MC,Int.reduceToNat] at k2
  by_cases c3 : y1 = true
  · rw [if_pos c3] at h
    obtain ⟨y4,hy4,h⟩ := ob h
    simp -implicitDefEqProofs only [U_when_Table,TT,Ic.t,Ic.ci,Nat.reduceEqDiff,reduceIte,Nat.reduceAdd,Nat.reduceMul,Nat.reduceLT,Nat.reduceLeDiff,Nat.reduceSub,reduceCtorEq,Int.reduceEq,Int.reduceNe,Int.reduceToNat,Int.reduceLT,Int.reduceLE,Int.reduceNeg,hl,k2,c3,CL,LTN]
    have Sy4 := when_Table_f_l1_s p1 ((p1.Parties.length : Nat) : Int) [] (0 : Int) y4 hy4
    unfold when_Table_f_l1_P at Sy4
    refine Sy4 _ τ.next 0 0 (by first | rfl | simp [bytesL_len]) (by first | exact Or.inl rfl | exact Or.inr rfl | assumption | simp) (by first | assumption | omega | (simp only [next_pt,next_pu,lock_pt,lock_pu]; omega)) (by simp -implicitDefEqProofs only [TT,Ic.t,Ic.ci,Nat.reduceEqDiff,reduceIte,Nat.reduceAdd,Nat.reduceMul,Nat.reduceLT,Nat.reduceLeDiff,Nat.reduceSub,reduceCtorEq,Int.reduceEq,Int.reduceNe,Int.reduceToNat,Int.reduceLT,Int.reduceLE,Int.reduceNeg,hl,k2,c3,CL,LTN]) (by first | assumption | omega | (simp only [next_pt,next_pu,lock_pt,lock_pu]; omega)) _ ?_
    intro frq5 tkq5 τq5 u0q5 uh0q5 g3q5 htq5 hcq5
    have hcq5 := cut_via (n := τ.next + 1) hcq5 (by first | omega | (simp only [next_pt,next_pu]; omega))
    try simp only [List.take_succ_cons,List.take_zero,List.take_nil,CL] at htq5
    try simp -implicitDefEqProofs only [TT,Ic.t,Ic.ci,Nat.reduceEqDiff,reduceIte,Nat.reduceAdd,Nat.reduceMul,Nat.reduceLT,Nat.reduceLeDiff,Nat.reduceSub,reduceCtorEq,Int.reduceEq,Int.reduceNe,Int.reduceToNat,Int.reduceLT,Int.reduceLE,Int.reduceNeg,hl,k2,c3,CL,LTN] at hcq5
    injection h with h; subst h
    simp -implicitDefEqProofs only [U_when_Table,TT,Ic.t,Ic.ci,Nat.reduceEqDiff,reduceIte,Nat.reduceAdd,Nat.reduceMul,Nat.reduceLT,Nat.reduceLeDiff,Nat.reduceSub,reduceCtorEq,Int.reduceEq,Int.reduceNe,Int.reduceToNat,Int.reduceLT,Int.reduceLE,Int.reduceNeg,hl,k2,c3,uh0q5,g3q5,htq5,hcq5,CL,LTN]
    exact hK
  rw [if_neg c3] at h
  have c3 := Bool.eq_false_iff.2 c3
  injection h with h; subst h
  simp -implicitDefEqProofs only [U_when_Table,TT,Ic.t,Ic.ci,Nat.reduceEqDiff,reduceIte,Nat.reduceAdd,Nat.reduceMul,Nat.reduceLT,Nat.reduceLeDiff,Nat.reduceSub,reduceCtorEq,Int.reduceEq,Int.reduceNe,Int.reduceToNat,Int.reduceLT,Int.reduceLE,Int.reduceNeg,hl,k2,c3,CL,LTN]
  exact hK
theorem when_Table_f_k (p1 : S_api_Spec) (r : (List Int)) (h : when_Table_f p1 = some r) (lk : Bool) (d : Option Nat) (K : TCont) (fr : TF) (tk : TK) (τ : TH) (hl : τ.lock ≤ τ.next) : callK G lk F_when_Table [.agg [.str p1.ID,.sl (List.map S_api_Party.tv p1.Parties),.sl (List.map S_api_Arc.tv p1.Arcs),.sl (List.map (TV.int .i64) p1.Leaders),.sl (List.map TV.str p1.Locks),.int .i64 p1.Start,.int .i64 p1.Delta]] d K fr tk τ = K (tput fr d (.sl (List.map (TV.int .i64) r))) tk τ :=
  callK_rdo (when_Table_f_s p1 r h τ  hl) (when_Table_f_s p1 r h (τ.locked τ.next)  (Nat.le_refl _) ) (by simp -implicitDefEqProofs only [TT,Ic.t,Ic.ci,Nat.reduceEqDiff,reduceIte,Nat.reduceAdd,Nat.reduceMul,Nat.reduceLT,Nat.reduceLeDiff,Nat.reduceSub,reduceCtorEq,Int.reduceEq,Int.reduceNe,Int.reduceToNat,Int.reduceLT,Int.reduceLE,Int.reduceNeg,hl,CL,LTN])
noncomputable def when_Last_f (p1 : S_api_Spec) : Option Int :=
  when_Deadline_f p1 ((p1.Parties.length : Nat) : Int) >>= fun y1 =>
  some y1
theorem when_Last_f_s (p1 : S_api_Spec) (r : Int) (h : when_Last_f p1 = some r) (τ : TH) (hl : τ.lock ≤ τ.next) : Ru G F_when_Last [.agg [.str p1.ID,.sl (List.map S_api_Party.tv p1.Parties),.sl (List.map S_api_Arc.tv p1.Arcs),.sl (List.map (TV.int .i64) p1.Leaders),.sl (List.map TV.str p1.Locks),.int .i64 p1.Start,.int .i64 p1.Delta]] τ (.int .i64 r) τ := by
  refine Ru_of fun K hK => ?_
  rw [tC_code g_when_Last (Nat.le_of_ble_eq_true rfl)]
  unfold when_Last_f at h
  obtain ⟨y1,hy1,h⟩ := ob h
  have k2 := when_Deadline_f_k p1 ((p1.Parties.length : Nat) : Int) _ hy1
  try simp only [CL,MC,Int.reduceToNat] at k2
  injection h with h; subst h
  simp -implicitDefEqProofs only [U_when_Last,TT,Ic.t,Ic.ci,Nat.reduceEqDiff,reduceIte,Nat.reduceAdd,Nat.reduceMul,Nat.reduceLT,Nat.reduceLeDiff,Nat.reduceSub,reduceCtorEq,Int.reduceEq,Int.reduceNe,Int.reduceToNat,Int.reduceLT,Int.reduceLE,Int.reduceNeg,hl,k2,CL,LTN]
  exact hK
theorem when_Last_f_k (p1 : S_api_Spec) (r : Int) (h : when_Last_f p1 = some r) (lk : Bool) (d : Option Nat) (K : TCont) (fr : TF) (tk : TK) (τ : TH) (hl : τ.lock ≤ τ.next) : callK G lk F_when_Last [.agg [.str p1.ID,.sl (List.map S_api_Party.tv p1.Parties),.sl (List.map S_api_Arc.tv p1.Arcs),.sl (List.map (TV.int .i64) p1.Leaders),.sl (List.map TV.str p1.Locks),.int .i64 p1.Start,.int .i64 p1.Delta]] d K fr tk τ = K (tput fr d (.int .i64 r)) tk τ :=
  callK_rdo (when_Last_f_s p1 r h τ  hl) (when_Last_f_s p1 r h (τ.locked τ.next)  (Nat.le_refl _) ) (by simp -implicitDefEqProofs only [TT,Ic.t,Ic.ci,Nat.reduceEqDiff,reduceIte,Nat.reduceAdd,Nat.reduceMul,Nat.reduceLT,Nat.reduceLeDiff,Nat.reduceSub,reduceCtorEq,Int.reduceEq,Int.reduceNe,Int.reduceToNat,Int.reduceLT,Int.reduceLE,Int.reduceNeg,hl,CL,LTN])
noncomputable def when_End_f (p1 : S_api_Spec) : Option Int :=
  when_of_f p1 (IntKind.i64.wrap ((2 : Int) * ((p1.Parties.length : Nat) : Int))) >>= fun y1 =>
  some y1
theorem when_End_f_s (p1 : S_api_Spec) (r : Int) (h : when_End_f p1 = some r) (τ : TH) (hl : τ.lock ≤ τ.next) : Ru G F_when_End [.agg [.str p1.ID,.sl (List.map S_api_Party.tv p1.Parties),.sl (List.map S_api_Arc.tv p1.Arcs),.sl (List.map (TV.int .i64) p1.Leaders),.sl (List.map TV.str p1.Locks),.int .i64 p1.Start,.int .i64 p1.Delta]] τ (.int .i64 r) τ := by
  refine Ru_of fun K hK => ?_
  rw [tC_code g_when_End (Nat.le_of_ble_eq_true rfl)]
  unfold when_End_f at h
  obtain ⟨y1,hy1,h⟩ := ob h
  have k2 := when_of_f_k p1 (IntKind.i64.wrap ((2 : Int) * ((p1.Parties.length : Nat) : Int))) _ hy1
  try simp only [CL,MC,Int.reduceToNat] at k2
  injection h with h; subst h
  simp -implicitDefEqProofs only [U_when_End,TT,Ic.t,Ic.ci,Nat.reduceEqDiff,reduceIte,Nat.reduceAdd,Nat.reduceMul,Nat.reduceLT,Nat.reduceLeDiff,Nat.reduceSub,reduceCtorEq,Int.reduceEq,Int.reduceNe,Int.reduceToNat,Int.reduceLT,Int.reduceLE,Int.reduceNeg,hl,k2,CL,LTN]
  exact hK
theorem when_End_f_k (p1 : S_api_Spec) (r : Int) (h : when_End_f p1 = some r) (lk : Bool) (d : Option Nat) (K : TCont) (fr : TF) (tk : TK) (τ : TH) (hl : τ.lock ≤ τ.next) : callK G lk F_when_End [.agg [.str p1.ID,.sl (List.map S_api_Party.tv p1.Parties),.sl (List.map S_api_Arc.tv p1.Arcs),.sl (List.map (TV.int .i64) p1.Leaders),.sl (List.map TV.str p1.Locks),.int .i64 p1.Start,.int .i64 p1.Delta]] d K fr tk τ = K (tput fr d (.int .i64 r)) tk τ :=
  callK_rdo (when_End_f_s p1 r h τ  hl) (when_End_f_s p1 r h (τ.locked τ.next)  (Nat.le_refl _) ) (by simp -implicitDefEqProofs only [TT,Ic.t,Ic.ci,Nat.reduceEqDiff,reduceIte,Nat.reduceAdd,Nat.reduceMul,Nat.reduceLT,Nat.reduceLeDiff,Nat.reduceSub,reduceCtorEq,Int.reduceEq,Int.reduceNe,Int.reduceToNat,Int.reduceLT,Int.reduceLE,Int.reduceNeg,hl,CL,LTN])
noncomputable def handsellaw06_awake_f  : Option Bool :=
  handsellaw00_Ring_f (3 : Int) (10 : Int) (5 : Int) >>= fun y1 =>
  when_Table_f y1 >>= fun y3 =>
  if ((y3.length : Nat) : Int) = (3 : Int) then
    ixL y3 (0 : Int) >>= fun y6 =>
    if y6 = (25 : Int) then
      ixL y3 (2 : Int) >>= fun y9 =>
      if y9 = (35 : Int) then
        when_End_f y1 >>= fun y12 =>
        if y12 = (40 : Int) then
          when_Last_f y1 >>= fun y15 =>
          if y15 = (35 : Int) then
            when_Deadline_f y1 (2 : Int) >>= fun y18 =>
            if y18 = (30 : Int) then
              when_End_f (⟨(⟨#[]⟩ : ByteArray),[],[],[],[],(0 : Int),(0 : Int)⟩ : S_api_Spec) >>= fun y21 =>
              some (decide (y21 = (0 : Int)))
            else
            some false
          else
          some false
        else
        some false
      else
      some false
    else
    some false
  else
  some false
theorem handsellaw06_awake_f_s  (r : Bool) (h : handsellaw06_awake_f  = some r) (τ : TH) (hl : τ.lock ≤ τ.next) : Ru G F_handsellaw06_awake [] τ (.bool r) τ := by
  refine Ru_of fun K hK => ?_
  rw [tC_code g_handsellaw06_awake (Nat.le_of_ble_eq_true rfl)]
  unfold handsellaw06_awake_f at h
  obtain ⟨y1,hy1,h⟩ := ob h
  have k2 := handsellaw00_Ring_f_k (3 : Int) (10 : Int) (5 : Int) _ hy1
  try simp only [CL,MC,Int.reduceToNat] at k2
  obtain ⟨y3,hy3,h⟩ := ob h
  have k4 := when_Table_f_k y1 _ hy3
  try simp only [CL,MC,Int.reduceToNat] at k4
  by_cases c5 : ((y3.length : Nat) : Int) = (3 : Int)
  · rw [if_pos c5] at h
    obtain ⟨y6,hy6,h⟩ := ob h
    have f7 := ixL_facts hy6
    have f7a := (f7.2.2 (TV.int .i64)).1
    have f7b := (f7.2.2 (TV.int .i64)).2
    try simp only [CL,MC,Int.reduceToNat] at f7 f7a f7b
    by_cases c8 : y6 = (25 : Int)
    · rw [if_pos c8] at h
      obtain ⟨y9,hy9,h⟩ := ob h
      have f10 := ixL_facts hy9
      have f10a := (f10.2.2 (TV.int .i64)).1
      have f10b := (f10.2.2 (TV.int .i64)).2
      try simp only [CL,MC,Int.reduceToNat] at f10 f10a f10b
      by_cases c11 : y9 = (35 : Int)
      · rw [if_pos c11] at h
        obtain ⟨y12,hy12,h⟩ := ob h
        have k13 := when_End_f_k y1 _ hy12
        try simp only [CL,MC,Int.reduceToNat] at k13
        by_cases c14 : y12 = (40 : Int)
        · rw [if_pos c14] at h
          obtain ⟨y15,hy15,h⟩ := ob h
          have k16 := when_Last_f_k y1 _ hy15
          try simp only [CL,MC,Int.reduceToNat] at k16
          by_cases c17 : y15 = (35 : Int)
          · rw [if_pos c17] at h
            obtain ⟨y18,hy18,h⟩ := ob h
            have k19 := when_Deadline_f_k y1 (2 : Int) _ hy18
            try simp only [CL,MC,Int.reduceToNat] at k19
            by_cases c20 : y18 = (30 : Int)
            · rw [if_pos c20] at h
              obtain ⟨y21,hy21,h⟩ := ob h
              have k22 := when_End_f_k (⟨(⟨#[]⟩ : ByteArray),[],[],[],[],(0 : Int),(0 : Int)⟩ : S_api_Spec) _ hy21
              try simp only [CL,MC,Int.reduceToNat] at k22
              injection h with h; subst h
              simp -implicitDefEqProofs only [U_handsellaw06_awake,TT,Ic.t,Ic.ci,Nat.reduceEqDiff,reduceIte,Nat.reduceAdd,Nat.reduceMul,Nat.reduceLT,Nat.reduceLeDiff,Nat.reduceSub,reduceCtorEq,Int.reduceEq,Int.reduceNe,Int.reduceToNat,Int.reduceLT,Int.reduceLE,Int.reduceNeg,hl,k2,k4,eq_true c5,f7.1,f7.2.1,f7a,f7b,eq_true c8,f10.1,f10.2.1,f10a,f10b,eq_true c11,k13,eq_true c14,k16,eq_true c17,k19,eq_true c20,k22,CL,LTN]
              exact hK
            rw [if_neg c20] at h
            injection h with h; subst h
            simp -implicitDefEqProofs only [U_handsellaw06_awake,TT,Ic.t,Ic.ci,Nat.reduceEqDiff,reduceIte,Nat.reduceAdd,Nat.reduceMul,Nat.reduceLT,Nat.reduceLeDiff,Nat.reduceSub,reduceCtorEq,Int.reduceEq,Int.reduceNe,Int.reduceToNat,Int.reduceLT,Int.reduceLE,Int.reduceNeg,hl,k2,k4,eq_true c5,f7.1,f7.2.1,f7a,f7b,eq_true c8,f10.1,f10.2.1,f10a,f10b,eq_true c11,k13,eq_true c14,k16,eq_true c17,k19,c20,CL,LTN]
            exact hK
          rw [if_neg c17] at h
          injection h with h; subst h
          simp -implicitDefEqProofs only [U_handsellaw06_awake,TT,Ic.t,Ic.ci,Nat.reduceEqDiff,reduceIte,Nat.reduceAdd,Nat.reduceMul,Nat.reduceLT,Nat.reduceLeDiff,Nat.reduceSub,reduceCtorEq,Int.reduceEq,Int.reduceNe,Int.reduceToNat,Int.reduceLT,Int.reduceLE,Int.reduceNeg,hl,k2,k4,eq_true c5,f7.1,f7.2.1,f7a,f7b,eq_true c8,f10.1,f10.2.1,f10a,f10b,eq_true c11,k13,eq_true c14,k16,c17,CL,LTN]
          exact hK
        rw [if_neg c14] at h
        injection h with h; subst h
        simp -implicitDefEqProofs only [U_handsellaw06_awake,TT,Ic.t,Ic.ci,Nat.reduceEqDiff,reduceIte,Nat.reduceAdd,Nat.reduceMul,Nat.reduceLT,Nat.reduceLeDiff,Nat.reduceSub,reduceCtorEq,Int.reduceEq,Int.reduceNe,Int.reduceToNat,Int.reduceLT,Int.reduceLE,Int.reduceNeg,hl,k2,k4,eq_true c5,f7.1,f7.2.1,f7a,f7b,eq_true c8,f10.1,f10.2.1,f10a,f10b,eq_true c11,k13,c14,CL,LTN]
        exact hK
      rw [if_neg c11] at h
      injection h with h; subst h
      simp -implicitDefEqProofs only [U_handsellaw06_awake,TT,Ic.t,Ic.ci,Nat.reduceEqDiff,reduceIte,Nat.reduceAdd,Nat.reduceMul,Nat.reduceLT,Nat.reduceLeDiff,Nat.reduceSub,reduceCtorEq,Int.reduceEq,Int.reduceNe,Int.reduceToNat,Int.reduceLT,Int.reduceLE,Int.reduceNeg,hl,k2,k4,eq_true c5,f7.1,f7.2.1,f7a,f7b,eq_true c8,f10.1,f10.2.1,f10a,f10b,c11,CL,LTN]
      exact hK
    rw [if_neg c8] at h
    injection h with h; subst h
    simp -implicitDefEqProofs only [U_handsellaw06_awake,TT,Ic.t,Ic.ci,Nat.reduceEqDiff,reduceIte,Nat.reduceAdd,Nat.reduceMul,Nat.reduceLT,Nat.reduceLeDiff,Nat.reduceSub,reduceCtorEq,Int.reduceEq,Int.reduceNe,Int.reduceToNat,Int.reduceLT,Int.reduceLE,Int.reduceNeg,hl,k2,k4,eq_true c5,f7.1,f7.2.1,f7a,f7b,c8,CL,LTN]
    exact hK
  rw [if_neg c5] at h
  injection h with h; subst h
  simp -implicitDefEqProofs only [U_handsellaw06_awake,TT,Ic.t,Ic.ci,Nat.reduceEqDiff,reduceIte,Nat.reduceAdd,Nat.reduceMul,Nat.reduceLT,Nat.reduceLeDiff,Nat.reduceSub,reduceCtorEq,Int.reduceEq,Int.reduceNe,Int.reduceToNat,Int.reduceLT,Int.reduceLE,Int.reduceNeg,hl,k2,k4,c5,CL,LTN]
  exact hK
theorem handsellaw06_awake_f_k  (r : Bool) (h : handsellaw06_awake_f  = some r) (lk : Bool) (d : Option Nat) (K : TCont) (fr : TF) (tk : TK) (τ : TH) (hl : τ.lock ≤ τ.next) : callK G lk F_handsellaw06_awake [] d K fr tk τ = K (tput fr d (.bool r)) tk τ :=
  callK_rdo (handsellaw06_awake_f_s  r h τ  hl) (handsellaw06_awake_f_s  r h (τ.locked τ.next)  (Nat.le_refl _) ) (by simp -implicitDefEqProofs only [TT,Ic.t,Ic.ci,Nat.reduceEqDiff,reduceIte,Nat.reduceAdd,Nat.reduceMul,Nat.reduceLT,Nat.reduceLeDiff,Nat.reduceSub,reduceCtorEq,Int.reduceEq,Int.reduceNe,Int.reduceToNat,Int.reduceLT,Int.reduceLE,Int.reduceNeg,hl,CL,LTN])
noncomputable def handsellaw06_WhenSteps_f_l1_step (v0 : Int) (v1 : Int) (v2 : S_api_Spec) (v3 : (List Int)) (v4 : Int) : Option (LS (Int) (LX (Unit) (Bool))) :=
  if v4 < v0 then
    ixL v3 v4 >>= fun y2 =>
    ixL v3 (IntKind.i64.wrap (v4 - (1 : Int))) >>= fun y4 =>
    if y2 = (IntKind.i64.wrap (y4 + v1)) then
      when_Deadline_f v2 (IntKind.i64.wrap (v4 + (1 : Int))) >>= fun y7 =>
      if y7 = y2 then
        some (.nx (IntKind.i64.wrap (v4 + (1 : Int))))
      else
      some (.dn (.rt false))
    else
    some (.dn (.rt false))
  else
  some (.dn (.ex ()))
noncomputable def handsellaw06_WhenSteps_f_l1 (v0 : Int) (v1 : Int) (v2 : S_api_Spec) (v3 : (List Int)) (v4 : Int) : Option (LX (Unit) (Bool)) := iterO (fun st => handsellaw06_WhenSteps_f_l1_step v0 v1 v2 v3 st) v4
theorem handsellaw06_WhenSteps_f_l1_eq (v0 : Int) (v1 : Int) (v2 : S_api_Spec) (v3 : (List Int)) (v4 : Int) : handsellaw06_WhenSteps_f_l1 v0 v1 v2 v3 v4 = handsellaw06_WhenSteps_f_l1_step v0 v1 v2 v3 v4 >>= LS.go (fun st => handsellaw06_WhenSteps_f_l1 v0 v1 v2 v3 st) := iterO_eq (fun st => handsellaw06_WhenSteps_f_l1_step v0 v1 v2 v3 st) v4
def handsellaw06_WhenSteps_f_l1_P (v0 : Int) (v1 : Int) (v2 : S_api_Spec) (v3 : (List Int)) (v4 : Int) (r : LX (Unit) (Bool)) : Prop := ∀ (τ : TH) (o0 : Nat) (hl : τ.lock ≤ τ.next) (ha0 : τ.at o0 = some ⟨T_api_Spec,[.str v2.ID,.sl (List.map S_api_Party.tv v2.Parties),.sl (List.map S_api_Arc.tv v2.Arcs),.sl (List.map (TV.int .i64) v2.Leaders),.sl (List.map TV.str v2.Locks),.int .i64 v2.Start,.int .i64 v2.Delta]⟩) (hi0 : o0 < τ.next) (Q : TEx → TCont) (hQ0 : ∀ v : Unit,r = (.ex v) → ∀ (fr : TF) (tk2 : TK) (τ2 : TH),lkp fr 7 = .int .i64 v0 → lkp fr 10 = .ptr o0 0 → lkp fr 11 = .sl (List.map (TV.int .i64) v3) → tk2.take 0 = [] → τ2.cut τ.next = τ → Q (.exit 0) fr tk2 τ2) (hQ1 : ∀ v : Bool,r = (.rt v) → ∀ (tk2 : TK) (τ2 : TH),τ2.cut τ.next = τ → Q .ret [(6,.bool v)] tk2 τ2) ,tW G (.loop [7,9,10,11,12] l_handsellaw06_WhenSteps_1) Q [(7,.int .i64 v0),(9,.int .i64 v1),(10,.ptr o0 0),(11,.sl (List.map (TV.int .i64) v3)),(12,.int .i64 v4)] [] τ
theorem handsellaw06_WhenSteps_f_l1_s (v0 : Int) (v1 : Int) (v2 : S_api_Spec) (v3 : (List Int)) (v4 : Int) (r : LX (Unit) (Bool)) (h : handsellaw06_WhenSteps_f_l1 v0 v1 v2 v3 v4 = some r) : handsellaw06_WhenSteps_f_l1_P v0 v1 v2 v3 v4 r := by
  refine iterO_ind (f := fun st => handsellaw06_WhenSteps_f_l1_step v0 v1 v2 v3 st) (P := fun st r => ∀ (v4 : Int),v4 = st → handsellaw06_WhenSteps_f_l1_P v0 v1 v2 v3 v4 r) ?_ h v4 rfl
  clear h r v4
  intro st o h r ih v4 hst τ o0  hl ha0 hi0 Q hQ0 hQ1
  subst hst
  have h : handsellaw06_WhenSteps_f_l1_step v0 v1 v2 v3 v4 = some o := h
  unfold handsellaw06_WhenSteps_f_l1_step at h
  refine tW_lp fun LQ hn hr he => ?_
  by_cases c1 : v4 < v0
  · rw [if_pos c1] at h
    obtain ⟨y2,hy2,h⟩ := ob h
    have f3 := ixL_facts hy2
    have f3a := (f3.2.2 (TV.int .i64)).1
    have f3b := (f3.2.2 (TV.int .i64)).2
    try simp only [CL,MC,Int.reduceToNat] at f3 f3a f3b
    obtain ⟨y4,hy4,h⟩ := ob h
    have f5 := ixL_facts hy4
    have f5a := (f5.2.2 (TV.int .i64)).1
    have f5b := (f5.2.2 (TV.int .i64)).2
    try simp only [CL,MC,Int.reduceToNat] at f5 f5a f5b
    by_cases c6 : y2 = (IntKind.i64.wrap (y4 + v1))
    · rw [if_pos c6] at h
      obtain ⟨y7,hy7,h⟩ := ob h
      have k8 := when_Deadline_f_k v2 (IntKind.i64.wrap (v4 + (1 : Int))) _ hy7
      try simp only [CL,MC,Int.reduceToNat] at k8
      by_cases c9 : y7 = y2
      · rw [if_pos c9] at h
        injection h with h; subst h
        have ih := ih (IntKind.i64.wrap (v4 + (1 : Int))) rfl
        unfold handsellaw06_WhenSteps_f_l1_P at ih
        simp -implicitDefEqProofs only [l_handsellaw06_WhenSteps_1,U_handsellaw06_WhenSteps,TT,Ic.t,Ic.ci,Nat.reduceEqDiff,reduceIte,Nat.reduceAdd,Nat.reduceMul,Nat.reduceLT,Nat.reduceLeDiff,Nat.reduceSub,reduceCtorEq,Int.reduceEq,Int.reduceNe,Int.reduceToNat,Int.reduceLT,Int.reduceLE,Int.reduceNeg,hl,ha0,hi0,c1,f3.1,f3.2.1,f3a,f3b,f5.1,f5.2.1,f5a,f5b,eq_true c6,k8,eq_true c9,CL,LTN]
        rw [hn]
        simp -implicitDefEqProofs only [TT,Ic.t,Ic.ci,Nat.reduceEqDiff,reduceIte,Nat.reduceAdd,Nat.reduceMul,Nat.reduceLT,Nat.reduceLeDiff,Nat.reduceSub,reduceCtorEq,Int.reduceEq,Int.reduceNe,Int.reduceToNat,Int.reduceLT,Int.reduceLE,Int.reduceNeg,hl,ha0,hi0,c1,f3.1,f3.2.1,f3a,f3b,f5.1,f5.2.1,f5a,f5b,eq_true c6,k8,eq_true c9,CL,LTN]
        exact ih  τ o0   (by first | assumption | (simp only [next_pt,lock_pt]; assumption)) (by simp -implicitDefEqProofs only [TT,Ic.t,Ic.ci,Nat.reduceEqDiff,reduceIte,Nat.reduceAdd,Nat.reduceMul,Nat.reduceLT,Nat.reduceLeDiff,Nat.reduceSub,reduceCtorEq,Int.reduceEq,Int.reduceNe,Int.reduceToNat,Int.reduceLT,Int.reduceLE,Int.reduceNeg,hl,ha0,hi0,c1,f3.1,f3.2.1,f3a,f3b,f5.1,f5.2.1,f5a,f5b,eq_true c6,k8,eq_true c9,CL,LTN]) (by first | assumption | (simp only [next_pt,lock_pt]; assumption)) Q hQ0 hQ1
      rw [if_neg c9] at h
      injection h with h; subst h
      obtain rfl : _ = r := ih
      simp -implicitDefEqProofs only [l_handsellaw06_WhenSteps_1,U_handsellaw06_WhenSteps,TT,Ic.t,Ic.ci,Nat.reduceEqDiff,reduceIte,Nat.reduceAdd,Nat.reduceMul,Nat.reduceLT,Nat.reduceLeDiff,Nat.reduceSub,reduceCtorEq,Int.reduceEq,Int.reduceNe,Int.reduceToNat,Int.reduceLT,Int.reduceLE,Int.reduceNeg,hl,ha0,hi0,he,hr,c1,f3.1,f3.2.1,f3a,f3b,f5.1,f5.2.1,f5a,f5b,eq_true c6,k8,c9,CL,LTN]
      exact hQ1 false rfl  _ _  (by first | exact cut_ge (Nat.le_refl _) | (simp -implicitDefEqProofs only [TT,Ic.t,Ic.ci,Nat.reduceEqDiff,reduceIte,Nat.reduceAdd,Nat.reduceMul,Nat.reduceLT,Nat.reduceLeDiff,Nat.reduceSub,reduceCtorEq,Int.reduceEq,Int.reduceNe,Int.reduceToNat,Int.reduceLT,Int.reduceLE,Int.reduceNeg,hl,ha0,hi0,c1,f3.1,f3.2.1,f3a,f3b,f5.1,f5.2.1,f5a,f5b,eq_true c6,k8,c9,CL,LTN]))
    rw [if_neg c6] at h
    injection h with h; subst h
    obtain rfl : _ = r := ih
    simp -implicitDefEqProofs only [l_handsellaw06_WhenSteps_1,U_handsellaw06_WhenSteps,TT,Ic.t,Ic.ci,Nat.reduceEqDiff,reduceIte,Nat.reduceAdd,Nat.reduceMul,Nat.reduceLT,Nat.reduceLeDiff,Nat.reduceSub,reduceCtorEq,Int.reduceEq,Int.reduceNe,Int.reduceToNat,Int.reduceLT,Int.reduceLE,Int.reduceNeg,hl,ha0,hi0,he,hr,c1,f3.1,f3.2.1,f3a,f3b,f5.1,f5.2.1,f5a,f5b,c6,CL,LTN]
    exact hQ1 false rfl  _ _  (by first | exact cut_ge (Nat.le_refl _) | (simp -implicitDefEqProofs only [TT,Ic.t,Ic.ci,Nat.reduceEqDiff,reduceIte,Nat.reduceAdd,Nat.reduceMul,Nat.reduceLT,Nat.reduceLeDiff,Nat.reduceSub,reduceCtorEq,Int.reduceEq,Int.reduceNe,Int.reduceToNat,Int.reduceLT,Int.reduceLE,Int.reduceNeg,hl,ha0,hi0,c1,f3.1,f3.2.1,f3a,f3b,f5.1,f5.2.1,f5a,f5b,c6,CL,LTN]))
  rw [if_neg c1] at h
  injection h with h; subst h
  obtain rfl : _ = r := ih
  simp -implicitDefEqProofs only [l_handsellaw06_WhenSteps_1,U_handsellaw06_WhenSteps,TT,Ic.t,Ic.ci,Nat.reduceEqDiff,reduceIte,Nat.reduceAdd,Nat.reduceMul,Nat.reduceLT,Nat.reduceLeDiff,Nat.reduceSub,reduceCtorEq,Int.reduceEq,Int.reduceNe,Int.reduceToNat,Int.reduceLT,Int.reduceLE,Int.reduceNeg,hl,ha0,hi0,he,hr,c1,CL,LTN]
  exact hQ0 () rfl  _ _ _  (by first | rfl | (simp -implicitDefEqProofs only [TT,Ic.t,Ic.ci,Nat.reduceEqDiff,reduceIte,Nat.reduceAdd,Nat.reduceMul,Nat.reduceLT,Nat.reduceLeDiff,Nat.reduceSub,reduceCtorEq,Int.reduceEq,Int.reduceNe,Int.reduceToNat,Int.reduceLT,Int.reduceLE,Int.reduceNeg,hl,ha0,hi0,c1,CL,LTN])) (by first | rfl | (simp -implicitDefEqProofs only [TT,Ic.t,Ic.ci,Nat.reduceEqDiff,reduceIte,Nat.reduceAdd,Nat.reduceMul,Nat.reduceLT,Nat.reduceLeDiff,Nat.reduceSub,reduceCtorEq,Int.reduceEq,Int.reduceNe,Int.reduceToNat,Int.reduceLT,Int.reduceLE,Int.reduceNeg,hl,ha0,hi0,c1,CL,LTN])) (by first | rfl | (simp -implicitDefEqProofs only [TT,Ic.t,Ic.ci,Nat.reduceEqDiff,reduceIte,Nat.reduceAdd,Nat.reduceMul,Nat.reduceLT,Nat.reduceLeDiff,Nat.reduceSub,reduceCtorEq,Int.reduceEq,Int.reduceNe,Int.reduceToNat,Int.reduceLT,Int.reduceLE,Int.reduceNeg,hl,ha0,hi0,c1,CL,LTN])) (by first | rfl | (simp -implicitDefEqProofs only [TT,Ic.t,Ic.ci,Nat.reduceEqDiff,reduceIte,Nat.reduceAdd,Nat.reduceMul,Nat.reduceLT,Nat.reduceLeDiff,Nat.reduceSub,reduceCtorEq,Int.reduceEq,Int.reduceNe,Int.reduceToNat,Int.reduceLT,Int.reduceLE,Int.reduceNeg,hl,ha0,hi0,c1,CL,LTN])) (by first | exact cut_ge (Nat.le_refl _) | (simp -implicitDefEqProofs only [TT,Ic.t,Ic.ci,Nat.reduceEqDiff,reduceIte,Nat.reduceAdd,Nat.reduceMul,Nat.reduceLT,Nat.reduceLeDiff,Nat.reduceSub,reduceCtorEq,Int.reduceEq,Int.reduceNe,Int.reduceToNat,Int.reduceLT,Int.reduceLE,Int.reduceNeg,hl,ha0,hi0,c1,CL,LTN]))
end Go.Proofs.Ytdcfoaafkppojaa
