/- Functions of numbers and lists, printed by a program of ours out of the code for the tree level, with their proofs. -/
import Derived.Test.YtdcfoaafkppojaaHRing
set_option linter.unusedVariables false
set_option linter.unusedSimpArgs false
set_option linter.unusedSectionVars false
namespace Go.Proofs.Ytdcfoaafkppojaa
open Go Go.RowKit Sh Ic
noncomputable def spec_name_f (p1 : ByteArray) : Option Bool :=
  if (1 : Int) ≤ ((p1.size : Nat) : Int) then
    some (decide (((p1.size : Nat) : Int) ≤ (16 : Int)))
  else
  some false
theorem spec_name_f_s (p1 : ByteArray) (r : Bool) (h : spec_name_f p1 = some r) (τ : TH) (hl : τ.lock ≤ τ.next) : Ru G F_spec_name [.str p1] τ (.bool r) τ := by
  refine Ru_of fun K hK => ?_
  rw [tC_code g_spec_name (Nat.le_of_ble_eq_true rfl)]
  unfold spec_name_f at h
  by_cases c1 : (1 : Int) ≤ ((p1.size : Nat) : Int)
  · rw [if_pos c1] at h
    injection h with h; subst h
    simp -implicitDefEqProofs only [U_spec_name,TT,Ic.t,Ic.ci,Nat.reduceEqDiff,reduceIte,Nat.reduceAdd,Nat.reduceMul,Nat.reduceLT,Nat.reduceLeDiff,Nat.reduceSub,reduceCtorEq,Int.reduceEq,Int.reduceNe,Int.reduceToNat,Int.reduceLT,Int.reduceLE,Int.reduceNeg,hl,c1,CL,LTN]
    exact hK
  rw [if_neg c1] at h
  injection h with h; subst h
  simp -implicitDefEqProofs only [U_spec_name,TT,Ic.t,Ic.ci,Nat.reduceEqDiff,reduceIte,Nat.reduceAdd,Nat.reduceMul,Nat.reduceLT,Nat.reduceLeDiff,Nat.reduceSub,reduceCtorEq,Int.reduceEq,Int.reduceNe,Int.reduceToNat,Int.reduceLT,Int.reduceLE,Int.reduceNeg,hl,c1,CL,LTN]
  exact hK
theorem spec_name_f_k (p1 : ByteArray) (r : Bool) (h : spec_name_f p1 = some r) (lk : Bool) (d : Option Nat) (K : TCont) (fr : TF) (tk : TK) (τ : TH) (hl : τ.lock ≤ τ.next) : callK G lk F_spec_name [.str p1] d K fr tk τ = K (tput fr d (.bool r)) tk τ :=
  callK_rdo (spec_name_f_s p1 r h τ  hl) (spec_name_f_s p1 r h (τ.locked τ.next)  (Nat.le_refl _) ) (by simp -implicitDefEqProofs only [TT,Ic.t,Ic.ci,Nat.reduceEqDiff,reduceIte,Nat.reduceAdd,Nat.reduceMul,Nat.reduceLT,Nat.reduceLeDiff,Nat.reduceSub,reduceCtorEq,Int.reduceEq,Int.reduceNe,Int.reduceToNat,Int.reduceLT,Int.reduceLE,Int.reduceNeg,hl,CL,LTN])
noncomputable def spec_in_f (p1 : Int) (p2 : Int) (p3 : Int) : Option Bool :=
  if p2 ≤ p1 then
    some (decide (p1 ≤ p3))
  else
  some false
theorem spec_in_f_s (p1 : Int) (p2 : Int) (p3 : Int) (r : Bool) (h : spec_in_f p1 p2 p3 = some r) (τ : TH) (hl : τ.lock ≤ τ.next) : Ru G F_spec_in [.int .i64 p1,.int .i64 p2,.int .i64 p3] τ (.bool r) τ := by
  refine Ru_of fun K hK => ?_
  rw [tC_code g_spec_in (Nat.le_of_ble_eq_true rfl)]
  unfold spec_in_f at h
  by_cases c1 : p2 ≤ p1
  · rw [if_pos c1] at h
    injection h with h; subst h
    simp -implicitDefEqProofs only [U_spec_in,TT,Ic.t,Ic.ci,Nat.reduceEqDiff,reduceIte,Nat.reduceAdd,Nat.reduceMul,Nat.reduceLT,Nat.reduceLeDiff,Nat.reduceSub,reduceCtorEq,Int.reduceEq,Int.reduceNe,Int.reduceToNat,Int.reduceLT,Int.reduceLE,Int.reduceNeg,hl,c1,CL,LTN]
    exact hK
  rw [if_neg c1] at h
  injection h with h; subst h
  simp -implicitDefEqProofs only [U_spec_in,TT,Ic.t,Ic.ci,Nat.reduceEqDiff,reduceIte,Nat.reduceAdd,Nat.reduceMul,Nat.reduceLT,Nat.reduceLeDiff,Nat.reduceSub,reduceCtorEq,Int.reduceEq,Int.reduceNe,Int.reduceToNat,Int.reduceLT,Int.reduceLE,Int.reduceNeg,hl,c1,CL,LTN]
  exact hK
theorem spec_in_f_k (p1 : Int) (p2 : Int) (p3 : Int) (r : Bool) (h : spec_in_f p1 p2 p3 = some r) (lk : Bool) (d : Option Nat) (K : TCont) (fr : TF) (tk : TK) (τ : TH) (hl : τ.lock ≤ τ.next) : callK G lk F_spec_in [.int .i64 p1,.int .i64 p2,.int .i64 p3] d K fr tk τ = K (tput fr d (.bool r)) tk τ :=
  callK_rdo (spec_in_f_s p1 p2 p3 r h τ  hl) (spec_in_f_s p1 p2 p3 r h (τ.locked τ.next)  (Nat.le_refl _) ) (by simp -implicitDefEqProofs only [TT,Ic.t,Ic.ci,Nat.reduceEqDiff,reduceIte,Nat.reduceAdd,Nat.reduceMul,Nat.reduceLT,Nat.reduceLeDiff,Nat.reduceSub,reduceCtorEq,Int.reduceEq,Int.reduceNe,Int.reduceToNat,Int.reduceLT,Int.reduceLE,Int.reduceNeg,hl,CL,LTN])
noncomputable def spec_sized_1_f (p1 : ByteArray) (p2 : Int) : Option Bool :=
  some (decide (¬ (((p1.size : Nat) : Int) = p2)))
theorem spec_sized_1_f_s (p1 : ByteArray) (p2 : Int) (r : Bool) (h : spec_sized_1_f p1 p2 = some r) (τ : TH) (o0 : Nat) (hl : τ.lock ≤ τ.next) (ha0 : τ.at o0 = some ⟨T_int,[.int .i64 p2]⟩) (hi0 : o0 < τ.next) : Ru G F_spec_sized_1 [.str p1,.ptr o0 0] τ (.bool r) τ := by
  refine Ru_of fun K hK => ?_
  rw [tC_code g_spec_sized_1 (Nat.le_of_ble_eq_true rfl)]
  unfold spec_sized_1_f at h
  injection h with h; subst h
  simp -implicitDefEqProofs only [U_spec_sized_1,TT,Ic.t,Ic.ci,Nat.reduceEqDiff,reduceIte,Nat.reduceAdd,Nat.reduceMul,Nat.reduceLT,Nat.reduceLeDiff,Nat.reduceSub,reduceCtorEq,Int.reduceEq,Int.reduceNe,Int.reduceToNat,Int.reduceLT,Int.reduceLE,Int.reduceNeg,hl,ha0,hi0,CL,LTN]
  exact hK
theorem spec_sized_1_f_k (p1 : ByteArray) (p2 : Int) (r : Bool) (h : spec_sized_1_f p1 p2 = some r) (lk : Bool) (d : Option Nat) (K : TCont) (fr : TF) (tk : TK) (τ : TH) (o0 : Nat) (hl : τ.lock ≤ τ.next) (ha0 : τ.at o0 = some ⟨T_int,[.int .i64 p2]⟩) (hi0 : o0 < τ.next) : callK G lk F_spec_sized_1 [.str p1,.ptr o0 0] d K fr tk τ = K (tput fr d (.bool r)) tk τ :=
  callK_rdo (spec_sized_1_f_s p1 p2 r h τ o0 hl ha0 hi0) (spec_sized_1_f_s p1 p2 r h (τ.locked τ.next) o0 (Nat.le_refl _) (by rw [at_lk]; exact ha0) hi0) (by simp -implicitDefEqProofs only [TT,Ic.t,Ic.ci,Nat.reduceEqDiff,reduceIte,Nat.reduceAdd,Nat.reduceMul,Nat.reduceLT,Nat.reduceLeDiff,Nat.reduceSub,reduceCtorEq,Int.reduceEq,Int.reduceNe,Int.reduceToNat,Int.reduceLT,Int.reduceLE,Int.reduceNeg,hl,ha0,hi0,CL,LTN])
noncomputable def slices_IndexFunc_string_string_f_l1_step (v0 : (List ByteArray)) (v1 : Int) (v2 : Int) (v3 : Int) : Option (LS (Int) (LX (Unit) (Int))) :=
  if v3 < v2 then
    ixL v0 v3 >>= fun y2 =>
    spec_sized_1_f y2 v1 >>= fun y4 =>
    if y4 = true then
      some (.dn (.rt v3))
    else
    some (.nx (IntKind.i64.wrap (v3 + (1 : Int))))
  else
  some (.dn (.ex ()))
noncomputable def slices_IndexFunc_string_string_f_l1 (v0 : (List ByteArray)) (v1 : Int) (v2 : Int) (v3 : Int) : Option (LX (Unit) (Int)) := iterO (fun st => slices_IndexFunc_string_string_f_l1_step v0 v1 v2 st) v3
theorem slices_IndexFunc_string_string_f_l1_eq (v0 : (List ByteArray)) (v1 : Int) (v2 : Int) (v3 : Int) : slices_IndexFunc_string_string_f_l1 v0 v1 v2 v3 = slices_IndexFunc_string_string_f_l1_step v0 v1 v2 v3 >>= LS.go (fun st => slices_IndexFunc_string_string_f_l1 v0 v1 v2 st) := iterO_eq (fun st => slices_IndexFunc_string_string_f_l1_step v0 v1 v2 st) v3
def slices_IndexFunc_string_string_f_l1_P (v0 : (List ByteArray)) (v1 : Int) (v2 : Int) (v3 : Int) (r : LX (Unit) (Int)) : Prop := ∀ (τ : TH) (o0 : Nat) (hl : τ.lock ≤ τ.next) (ha0 : τ.at o0 = some ⟨T_int,[.int .i64 v1]⟩) (hi0 : o0 < τ.next) (Q : TEx → TCont) (hQ0 : ∀ v : Unit,r = (.ex v) → ∀ (fr : TF) (tk2 : TK) (τ2 : TH),tk2.take 0 = [] → τ2.cut τ.next = τ → Q (.exit 0) fr tk2 τ2) (hQ1 : ∀ v : Int,r = (.rt v) → ∀ (tk2 : TK) (τ2 : TH),τ2.cut τ.next = τ → Q .ret [(4,.int .i64 v)] tk2 τ2) ,tW G (.loop [0,1,7,8] l_slices_IndexFunc_string_string_1) Q [(0,.sl (List.map TV.str v0)),(1,.func F_spec_sized_1 [] [.ptr o0 0]),(7,.int .i64 v2),(8,.int .i64 v3)] [] τ
theorem slices_IndexFunc_string_string_f_l1_s (v0 : (List ByteArray)) (v1 : Int) (v2 : Int) (v3 : Int) (r : LX (Unit) (Int)) (h : slices_IndexFunc_string_string_f_l1 v0 v1 v2 v3 = some r) : slices_IndexFunc_string_string_f_l1_P v0 v1 v2 v3 r := by
  refine iterO_ind (f := fun st => slices_IndexFunc_string_string_f_l1_step v0 v1 v2 st) (P := fun st r => ∀ (v3 : Int),v3 = st → slices_IndexFunc_string_string_f_l1_P v0 v1 v2 v3 r) ?_ h v3 rfl
  clear h r v3
  intro st o h r ih v3 hst τ o0  hl ha0 hi0 Q hQ0 hQ1
  subst hst
  have h : slices_IndexFunc_string_string_f_l1_step v0 v1 v2 v3 = some o := h
  unfold slices_IndexFunc_string_string_f_l1_step at h
  refine tW_lp fun LQ hn hr he => ?_
  by_cases c1 : v3 < v2
  · rw [if_pos c1] at h
    obtain ⟨y2,hy2,h⟩ := ob h
    have f3 := ixL_facts hy2
    have f3a := (f3.2.2 TV.str).1
    have f3b := (f3.2.2 TV.str).2
    try simp only [CL,MC,Int.reduceToNat] at f3 f3a f3b
    obtain ⟨y4,hy4,h⟩ := ob h
    have k5 := spec_sized_1_f_k y2 v1 _ hy4
    try simp only [CL,MC,Int.reduceToNat] at k5
    by_cases c6 : y4 = true
    · rw [if_pos c6] at h
      injection h with h; subst h
      obtain rfl : _ = r := ih
      simp -implicitDefEqProofs only [l_slices_IndexFunc_string_string_1,U_slices_IndexFunc_string_string,TT,Ic.t,Ic.ci,Nat.reduceEqDiff,reduceIte,Nat.reduceAdd,Nat.reduceMul,Nat.reduceLT,Nat.reduceLeDiff,Nat.reduceSub,reduceCtorEq,Int.reduceEq,Int.reduceNe,Int.reduceToNat,Int.reduceLT,Int.reduceLE,Int.reduceNeg,hl,ha0,hi0,he,hr,c1,f3.1,f3.2.1,f3a,f3b,k5,c6,CL,LTN]
      exact hQ1 v3 rfl  _ _  (by first | exact cut_ge (Nat.le_refl _) | (simp -implicitDefEqProofs only [TT,Ic.t,Ic.ci,Nat.reduceEqDiff,reduceIte,Nat.reduceAdd,Nat.reduceMul,Nat.reduceLT,Nat.reduceLeDiff,Nat.reduceSub,reduceCtorEq,Int.reduceEq,Int.reduceNe,Int.reduceToNat,Int.reduceLT,Int.reduceLE,Int.reduceNeg,hl,ha0,hi0,c1,f3.1,f3.2.1,f3a,f3b,k5,c6,CL,LTN]))
    rw [if_neg c6] at h
    have c6 := Bool.eq_false_iff.2 c6
    injection h with h; subst h
    have ih := ih (IntKind.i64.wrap (v3 + (1 : Int))) rfl
    unfold slices_IndexFunc_string_string_f_l1_P at ih
    simp -implicitDefEqProofs only [l_slices_IndexFunc_string_string_1,U_slices_IndexFunc_string_string,TT,Ic.t,Ic.ci,Nat.reduceEqDiff,reduceIte,Nat.reduceAdd,Nat.reduceMul,Nat.reduceLT,Nat.reduceLeDiff,Nat.reduceSub,reduceCtorEq,Int.reduceEq,Int.reduceNe,Int.reduceToNat,Int.reduceLT,Int.reduceLE,Int.reduceNeg,hl,ha0,hi0,c1,f3.1,f3.2.1,f3a,f3b,k5,c6,CL,LTN]
    rw [hn]
    simp -implicitDefEqProofs only [TT,Ic.t,Ic.ci,Nat.reduceEqDiff,reduceIte,Nat.reduceAdd,Nat.reduceMul,Nat.reduceLT,Nat.reduceLeDiff,Nat.reduceSub,reduceCtorEq,Int.reduceEq,Int.reduceNe,Int.reduceToNat,Int.reduceLT,Int.reduceLE,Int.reduceNeg,hl,ha0,hi0,c1,f3.1,f3.2.1,f3a,f3b,k5,c6,CL,LTN]
    exact ih  τ o0   (by first | assumption | (simp only [next_pt,lock_pt]; assumption)) (by simp -implicitDefEqProofs only [TT,Ic.t,Ic.ci,Nat.reduceEqDiff,reduceIte,Nat.reduceAdd,Nat.reduceMul,Nat.reduceLT,Nat.reduceLeDiff,Nat.reduceSub,reduceCtorEq,Int.reduceEq,Int.reduceNe,Int.reduceToNat,Int.reduceLT,Int.reduceLE,Int.reduceNeg,hl,ha0,hi0,c1,f3.1,f3.2.1,f3a,f3b,k5,c6,CL,LTN]) (by first | assumption | (simp only [next_pt,lock_pt]; assumption)) Q hQ0 hQ1
  rw [if_neg c1] at h
  injection h with h; subst h
  obtain rfl : _ = r := ih
  simp -implicitDefEqProofs only [l_slices_IndexFunc_string_string_1,U_slices_IndexFunc_string_string,TT,Ic.t,Ic.ci,Nat.reduceEqDiff,reduceIte,Nat.reduceAdd,Nat.reduceMul,Nat.reduceLT,Nat.reduceLeDiff,Nat.reduceSub,reduceCtorEq,Int.reduceEq,Int.reduceNe,Int.reduceToNat,Int.reduceLT,Int.reduceLE,Int.reduceNeg,hl,ha0,hi0,he,hr,c1,CL,LTN]
  exact hQ0 () rfl  _ _ _   (by first | rfl | (simp -implicitDefEqProofs only [TT,Ic.t,Ic.ci,Nat.reduceEqDiff,reduceIte,Nat.reduceAdd,Nat.reduceMul,Nat.reduceLT,Nat.reduceLeDiff,Nat.reduceSub,reduceCtorEq,Int.reduceEq,Int.reduceNe,Int.reduceToNat,Int.reduceLT,Int.reduceLE,Int.reduceNeg,hl,ha0,hi0,c1,CL,LTN])) (by first | exact cut_ge (Nat.le_refl _) | (simp -implicitDefEqProofs only [TT,Ic.t,Ic.ci,Nat.reduceEqDiff,reduceIte,Nat.reduceAdd,Nat.reduceMul,Nat.reduceLT,Nat.reduceLeDiff,Nat.reduceSub,reduceCtorEq,Int.reduceEq,Int.reduceNe,Int.reduceToNat,Int.reduceLT,Int.reduceLE,Int.reduceNeg,hl,ha0,hi0,c1,CL,LTN]))
noncomputable def slices_IndexFunc_string_string_f (p1 : (List ByteArray)) (p2 : Int) : Option Int :=
  slices_IndexFunc_string_string_f_l1 p1 p2 ((p1.length : Nat) : Int) (0 : Int) >>= fun y1 =>
  match y1 with
  | .ex w2 =>
    some (-1 : Int)
  | .rt w4 =>
    some w4
theorem slices_IndexFunc_string_string_f_s (p1 : (List ByteArray)) (p2 : Int) (r : Int) (h : slices_IndexFunc_string_string_f p1 p2 = some r) (τ : TH) (o0 : Nat) (hl : τ.lock ≤ τ.next) (ha0 : τ.at o0 = some ⟨T_int,[.int .i64 p2]⟩) (hi0 : o0 < τ.next) : Ru G F_slices_IndexFunc_string_string [.sl (List.map TV.str p1),.func F_spec_sized_1 [] [.ptr o0 0]] τ (.int .i64 r) τ := by
  refine Ru_of fun K hK => ?_
  rw [tC_code g_slices_IndexFunc_string_string (Nat.le_of_ble_eq_true rfl)]
  unfold slices_IndexFunc_string_string_f at h
  obtain ⟨y1,hy1,h⟩ := ob h
  simp -implicitDefEqProofs only [U_slices_IndexFunc_string_string,TT,Ic.t,Ic.ci,Nat.reduceEqDiff,reduceIte,Nat.reduceAdd,Nat.reduceMul,Nat.reduceLT,Nat.reduceLeDiff,Nat.reduceSub,reduceCtorEq,Int.reduceEq,Int.reduceNe,Int.reduceToNat,Int.reduceLT,Int.reduceLE,Int.reduceNeg,hl,ha0,hi0,CL,LTN]
  have Sy1 := slices_IndexFunc_string_string_f_l1_s p1 p2 ((p1.length : Nat) : Int) (0 : Int) y1 hy1
  unfold slices_IndexFunc_string_string_f_l1_P at Sy1
  refine Sy1 _ o0 (by first | assumption | omega | (simp only [next_pt,next_pu,lock_pt,lock_pu]; omega)) (by simp -implicitDefEqProofs only [TT,Ic.t,Ic.ci,Nat.reduceEqDiff,reduceIte,Nat.reduceAdd,Nat.reduceMul,Nat.reduceLT,Nat.reduceLeDiff,Nat.reduceSub,reduceCtorEq,Int.reduceEq,Int.reduceNe,Int.reduceToNat,Int.reduceLT,Int.reduceLE,Int.reduceNeg,hl,ha0,hi0,CL,LTN]) (by first | assumption | omega | (simp only [next_pt,next_pu,lock_pt,lock_pu]; omega)) _ ?_ ?_
  · intro w2 e frq3 tkq3 τq3 htq3 hcq3
    subst e
    simp only at h
    have hcq3 := cut_via (n := τ.next) hcq3 (by first | omega | (simp only [next_pt,next_pu]; omega))
    try simp only [List.take_succ_cons,List.take_zero,List.take_nil,CL] at htq3
    try simp -implicitDefEqProofs only [TT,Ic.t,Ic.ci,Nat.reduceEqDiff,reduceIte,Nat.reduceAdd,Nat.reduceMul,Nat.reduceLT,Nat.reduceLeDiff,Nat.reduceSub,reduceCtorEq,Int.reduceEq,Int.reduceNe,Int.reduceToNat,Int.reduceLT,Int.reduceLE,Int.reduceNeg,hl,ha0,hi0,CL,LTN] at hcq3
    injection h with h; subst h
    simp -implicitDefEqProofs only [U_slices_IndexFunc_string_string,TT,Ic.t,Ic.ci,Nat.reduceEqDiff,reduceIte,Nat.reduceAdd,Nat.reduceMul,Nat.reduceLT,Nat.reduceLeDiff,Nat.reduceSub,reduceCtorEq,Int.reduceEq,Int.reduceNe,Int.reduceToNat,Int.reduceLT,Int.reduceLE,Int.reduceNeg,hl,ha0,hi0,htq3,hcq3,CL,LTN]
    exact hK
  intro w4 e tkq5 τq5 hcq5
  subst e
  simp only at h
  have hcq5 := cut_via (n := τ.next) hcq5 (by first | omega | (simp only [next_pt,next_pu]; omega))
  try simp -implicitDefEqProofs only [TT,Ic.t,Ic.ci,Nat.reduceEqDiff,reduceIte,Nat.reduceAdd,Nat.reduceMul,Nat.reduceLT,Nat.reduceLeDiff,Nat.reduceSub,reduceCtorEq,Int.reduceEq,Int.reduceNe,Int.reduceToNat,Int.reduceLT,Int.reduceLE,Int.reduceNeg,hl,ha0,hi0,CL,LTN] at hcq5
  injection h with h; subst h
  simp -implicitDefEqProofs only [U_slices_IndexFunc_string_string,TT,Ic.t,Ic.ci,Nat.reduceEqDiff,reduceIte,Nat.reduceAdd,Nat.reduceMul,Nat.reduceLT,Nat.reduceLeDiff,Nat.reduceSub,reduceCtorEq,Int.reduceEq,Int.reduceNe,Int.reduceToNat,Int.reduceLT,Int.reduceLE,Int.reduceNeg,hl,ha0,hi0,hcq5,CL,LTN]
  exact hK
theorem slices_IndexFunc_string_string_f_k (p1 : (List ByteArray)) (p2 : Int) (r : Int) (h : slices_IndexFunc_string_string_f p1 p2 = some r) (lk : Bool) (d : Option Nat) (K : TCont) (fr : TF) (tk : TK) (τ : TH) (o0 : Nat) (hl : τ.lock ≤ τ.next) (ha0 : τ.at o0 = some ⟨T_int,[.int .i64 p2]⟩) (hi0 : o0 < τ.next) : callK G lk F_slices_IndexFunc_string_string [.sl (List.map TV.str p1),.func F_spec_sized_1 [] [.ptr o0 0]] d K fr tk τ = K (tput fr d (.int .i64 r)) tk τ :=
  callK_rdo (slices_IndexFunc_string_string_f_s p1 p2 r h τ o0 hl ha0 hi0) (slices_IndexFunc_string_string_f_s p1 p2 r h (τ.locked τ.next) o0 (Nat.le_refl _) (by rw [at_lk]; exact ha0) hi0) (by simp -implicitDefEqProofs only [TT,Ic.t,Ic.ci,Nat.reduceEqDiff,reduceIte,Nat.reduceAdd,Nat.reduceMul,Nat.reduceLT,Nat.reduceLeDiff,Nat.reduceSub,reduceCtorEq,Int.reduceEq,Int.reduceNe,Int.reduceToNat,Int.reduceLT,Int.reduceLE,Int.reduceNeg,hl,ha0,hi0,CL,LTN])
noncomputable def slices_ContainsFunc_string_string_f (p1 : (List ByteArray)) (p2 : Int) : Option Bool :=
  slices_IndexFunc_string_string_f p1 p2 >>= fun y1 =>
  some (decide ((0 : Int) ≤ y1))
theorem slices_ContainsFunc_string_string_f_s (p1 : (List ByteArray)) (p2 : Int) (r : Bool) (h : slices_ContainsFunc_string_string_f p1 p2 = some r) (τ : TH) (o0 : Nat) (hl : τ.lock ≤ τ.next) (ha0 : τ.at o0 = some ⟨T_int,[.int .i64 p2]⟩) (hi0 : o0 < τ.next) : Ru G F_slices_ContainsFunc_string_string [.sl (List.map TV.str p1),.func F_spec_sized_1 [] [.ptr o0 0]] τ (.bool r) τ := by
  refine Ru_of fun K hK => ?_
  rw [tC_code g_slices_ContainsFunc_string_string (Nat.le_of_ble_eq_true rfl)]
  unfold slices_ContainsFunc_string_string_f at h
  obtain ⟨y1,hy1,h⟩ := ob h
  have k2 := slices_IndexFunc_string_string_f_k p1 p2 _ hy1
  try simp only [CL,MC,Int.reduceToNat] at k2
  injection h with h; subst h
  simp -implicitDefEqProofs only [U_slices_ContainsFunc_string_string,TT,Ic.t,Ic.ci,Nat.reduceEqDiff,reduceIte,Nat.reduceAdd,Nat.reduceMul,Nat.reduceLT,Nat.reduceLeDiff,Nat.reduceSub,reduceCtorEq,Int.reduceEq,Int.reduceNe,Int.reduceToNat,Int.reduceLT,Int.reduceLE,Int.reduceNeg,hl,ha0,hi0,k2,CL,LTN]
  exact hK
theorem slices_ContainsFunc_string_string_f_k (p1 : (List ByteArray)) (p2 : Int) (r : Bool) (h : slices_ContainsFunc_string_string_f p1 p2 = some r) (lk : Bool) (d : Option Nat) (K : TCont) (fr : TF) (tk : TK) (τ : TH) (o0 : Nat) (hl : τ.lock ≤ τ.next) (ha0 : τ.at o0 = some ⟨T_int,[.int .i64 p2]⟩) (hi0 : o0 < τ.next) : callK G lk F_slices_ContainsFunc_string_string [.sl (List.map TV.str p1),.func F_spec_sized_1 [] [.ptr o0 0]] d K fr tk τ = K (tput fr d (.bool r)) tk τ :=
  callK_rdo (slices_ContainsFunc_string_string_f_s p1 p2 r h τ o0 hl ha0 hi0) (slices_ContainsFunc_string_string_f_s p1 p2 r h (τ.locked τ.next) o0 (Nat.le_refl _) (by rw [at_lk]; exact ha0) hi0) (by simp -implicitDefEqProofs only [TT,Ic.t,Ic.ci,Nat.reduceEqDiff,reduceIte,Nat.reduceAdd,Nat.reduceMul,Nat.reduceLT,Nat.reduceLeDiff,Nat.reduceSub,reduceCtorEq,Int.reduceEq,Int.reduceNe,Int.reduceToNat,Int.reduceLT,Int.reduceLE,Int.reduceNeg,hl,ha0,hi0,CL,LTN])
noncomputable def spec_sized_f (p1 : (List ByteArray)) (p2 : Int) (p3 : Int) : Option Bool :=
  if ((p1.length : Nat) : Int) = p2 then
    slices_ContainsFunc_string_string_f p1 p3 >>= fun y2 =>
    some (!y2)
  else
  some false
theorem spec_sized_f_s (p1 : (List ByteArray)) (p2 : Int) (p3 : Int) (r : Bool) (h : spec_sized_f p1 p2 p3 = some r) (τ : TH) (hl : τ.lock ≤ τ.next) : Ru G F_spec_sized [.sl (List.map TV.str p1),.int .i64 p2,.int .i64 p3] τ (.bool r) τ := by
  refine Ru_of fun K hK => ?_
  rw [tC_code g_spec_sized (Nat.le_of_ble_eq_true rfl)]
  unfold spec_sized_f at h
  by_cases c1 : ((p1.length : Nat) : Int) = p2
  · rw [if_pos c1] at h
    obtain ⟨y2,hy2,h⟩ := ob h
    have k3 := slices_ContainsFunc_string_string_f_k p1 p3 _ hy2
    try simp only [CL,MC,Int.reduceToNat] at k3
    injection h with h; subst h
    simp -implicitDefEqProofs only [U_spec_sized,TT,Ic.t,Ic.ci,Nat.reduceEqDiff,reduceIte,Nat.reduceAdd,Nat.reduceMul,Nat.reduceLT,Nat.reduceLeDiff,Nat.reduceSub,reduceCtorEq,Int.reduceEq,Int.reduceNe,Int.reduceToNat,Int.reduceLT,Int.reduceLE,Int.reduceNeg,hl,eq_true c1,k3,CL,LTN]
    exact hK
  rw [if_neg c1] at h
  injection h with h; subst h
  simp -implicitDefEqProofs only [U_spec_sized,TT,Ic.t,Ic.ci,Nat.reduceEqDiff,reduceIte,Nat.reduceAdd,Nat.reduceMul,Nat.reduceLT,Nat.reduceLeDiff,Nat.reduceSub,reduceCtorEq,Int.reduceEq,Int.reduceNe,Int.reduceToNat,Int.reduceLT,Int.reduceLE,Int.reduceNeg,hl,c1,CL,LTN]
  exact hK
theorem spec_sized_f_k (p1 : (List ByteArray)) (p2 : Int) (p3 : Int) (r : Bool) (h : spec_sized_f p1 p2 p3 = some r) (lk : Bool) (d : Option Nat) (K : TCont) (fr : TF) (tk : TK) (τ : TH) (hl : τ.lock ≤ τ.next) : callK G lk F_spec_sized [.sl (List.map TV.str p1),.int .i64 p2,.int .i64 p3] d K fr tk τ = K (tput fr d (.bool r)) tk τ :=
  callK_rdo (spec_sized_f_s p1 p2 p3 r h τ  hl) (spec_sized_f_s p1 p2 p3 r h (τ.locked τ.next)  (Nat.le_refl _) ) (by simp -implicitDefEqProofs only [TT,Ic.t,Ic.ci,Nat.reduceEqDiff,reduceIte,Nat.reduceAdd,Nat.reduceMul,Nat.reduceLT,Nat.reduceLeDiff,Nat.reduceSub,reduceCtorEq,Int.reduceEq,Int.reduceNe,Int.reduceToNat,Int.reduceLT,Int.reduceLE,Int.reduceNeg,hl,CL,LTN])
noncomputable def spec_arc_f (p1 : S_api_Arc) (p2 : Int) : Option Bool :=
  spec_in_f p1.From (0 : Int) (IntKind.i64.wrap (p2 - (1 : Int))) >>= fun y1 =>
  if y1 = true then
    spec_in_f p1.To (0 : Int) (IntKind.i64.wrap (p2 - (1 : Int))) >>= fun y4 =>
    if y4 = true then
      if p1.From = p1.To then
        some false
      else
      spec_in_f p1.Ledger (0 : Int) (3 : Int) >>= fun y8 =>
      if y8 = true then
        spec_name_f p1.Asset >>= fun y11 =>
        if y11 = true then
          spec_in_f p1.Amount (1 : Int) (1125899906842624 : Int) >>= fun y14 =>
          some y14
        else
        some false
      else
      some false
    else
    some false
  else
  some false
theorem spec_arc_f_s (p1 : S_api_Arc) (p2 : Int) (r : Bool) (h : spec_arc_f p1 p2 = some r) (τ : TH) (hl : τ.lock ≤ τ.next) : Ru G F_spec_arc [.agg [.int .i64 p1.From,.int .i64 p1.To,.int .i64 p1.Ledger,.str p1.Asset,.int .i64 p1.Amount],.int .i64 p2] τ (.bool r) τ := by
  refine Ru_of fun K hK => ?_
  rw [tC_code g_spec_arc (Nat.le_of_ble_eq_true rfl)]
  unfold spec_arc_f at h
  obtain ⟨y1,hy1,h⟩ := ob h
  have k2 := spec_in_f_k p1.From (0 : Int) (IntKind.i64.wrap (p2 - (1 : Int))) _ hy1
  try simp only [CL,MC,Int.reduceToNat] at k2
  by_cases c3 : y1 = true
  · rw [if_pos c3] at h
    obtain ⟨y4,hy4,h⟩ := ob h
    have k5 := spec_in_f_k p1.To (0 : Int) (IntKind.i64.wrap (p2 - (1 : Int))) _ hy4
    try simp only [CL,MC,Int.reduceToNat] at k5
    by_cases c6 : y4 = true
    · rw [if_pos c6] at h
      by_cases c7 : p1.From = p1.To
      · rw [if_pos c7] at h
        injection h with h; subst h
        simp -implicitDefEqProofs only [U_spec_arc,TT,Ic.t,Ic.ci,Nat.reduceEqDiff,reduceIte,Nat.reduceAdd,Nat.reduceMul,Nat.reduceLT,Nat.reduceLeDiff,Nat.reduceSub,reduceCtorEq,Int.reduceEq,Int.reduceNe,Int.reduceToNat,Int.reduceLT,Int.reduceLE,Int.reduceNeg,hl,k2,c3,k5,c6,eq_true c7,CL,LTN]
        exact hK
      rw [if_neg c7] at h
      obtain ⟨y8,hy8,h⟩ := ob h
      have k9 := spec_in_f_k p1.Ledger (0 : Int) (3 : Int) _ hy8
      try simp only [CL,MC,Int.reduceToNat] at k9
      by_cases c10 : y8 = true
      · rw [if_pos c10] at h
        obtain ⟨y11,hy11,h⟩ := ob h
        have k12 := spec_name_f_k p1.Asset _ hy11
        try simp only [CL,MC,Int.reduceToNat] at k12
        by_cases c13 : y11 = true
        · rw [if_pos c13] at h
          obtain ⟨y14,hy14,h⟩ := ob h
          have k15 := spec_in_f_k p1.Amount (1 : Int) (1125899906842624 : Int) _ hy14
          try simp only [CL,MC,Int.reduceToNat] at k15
          injection h with h; subst h
          simp -implicitDefEqProofs only [U_spec_arc,TT,Ic.t,Ic.ci,Nat.reduceEqDiff,reduceIte,Nat.reduceAdd,Nat.reduceMul,Nat.reduceLT,Nat.reduceLeDiff,Nat.reduceSub,reduceCtorEq,Int.reduceEq,Int.reduceNe,Int.reduceToNat,Int.reduceLT,Int.reduceLE,Int.reduceNeg,hl,k2,c3,k5,c6,c7,k9,c10,k12,c13,k15,CL,LTN]
          exact hK
        rw [if_neg c13] at h
        have c13 := Bool.eq_false_iff.2 c13
        injection h with h; subst h
        simp -implicitDefEqProofs only [U_spec_arc,TT,Ic.t,Ic.ci,Nat.reduceEqDiff,reduceIte,Nat.reduceAdd,Nat.reduceMul,Nat.reduceLT,Nat.reduceLeDiff,Nat.reduceSub,reduceCtorEq,Int.reduceEq,Int.reduceNe,Int.reduceToNat,Int.reduceLT,Int.reduceLE,Int.reduceNeg,hl,k2,c3,k5,c6,c7,k9,c10,k12,c13,CL,LTN]
        exact hK
      rw [if_neg c10] at h
      have c10 := Bool.eq_false_iff.2 c10
      injection h with h; subst h
      simp -implicitDefEqProofs only [U_spec_arc,TT,Ic.t,Ic.ci,Nat.reduceEqDiff,reduceIte,Nat.reduceAdd,Nat.reduceMul,Nat.reduceLT,Nat.reduceLeDiff,Nat.reduceSub,reduceCtorEq,Int.reduceEq,Int.reduceNe,Int.reduceToNat,Int.reduceLT,Int.reduceLE,Int.reduceNeg,hl,k2,c3,k5,c6,c7,k9,c10,CL,LTN]
      exact hK
    rw [if_neg c6] at h
    have c6 := Bool.eq_false_iff.2 c6
    injection h with h; subst h
    simp -implicitDefEqProofs only [U_spec_arc,TT,Ic.t,Ic.ci,Nat.reduceEqDiff,reduceIte,Nat.reduceAdd,Nat.reduceMul,Nat.reduceLT,Nat.reduceLeDiff,Nat.reduceSub,reduceCtorEq,Int.reduceEq,Int.reduceNe,Int.reduceToNat,Int.reduceLT,Int.reduceLE,Int.reduceNeg,hl,k2,c3,k5,c6,CL,LTN]
    exact hK
  rw [if_neg c3] at h
  have c3 := Bool.eq_false_iff.2 c3
  injection h with h; subst h
  simp -implicitDefEqProofs only [U_spec_arc,TT,Ic.t,Ic.ci,Nat.reduceEqDiff,reduceIte,Nat.reduceAdd,Nat.reduceMul,Nat.reduceLT,Nat.reduceLeDiff,Nat.reduceSub,reduceCtorEq,Int.reduceEq,Int.reduceNe,Int.reduceToNat,Int.reduceLT,Int.reduceLE,Int.reduceNeg,hl,k2,c3,CL,LTN]
  exact hK
theorem spec_arc_f_k (p1 : S_api_Arc) (p2 : Int) (r : Bool) (h : spec_arc_f p1 p2 = some r) (lk : Bool) (d : Option Nat) (K : TCont) (fr : TF) (tk : TK) (τ : TH) (hl : τ.lock ≤ τ.next) : callK G lk F_spec_arc [.agg [.int .i64 p1.From,.int .i64 p1.To,.int .i64 p1.Ledger,.str p1.Asset,.int .i64 p1.Amount],.int .i64 p2] d K fr tk τ = K (tput fr d (.bool r)) tk τ :=
  callK_rdo (spec_arc_f_s p1 p2 r h τ  hl) (spec_arc_f_s p1 p2 r h (τ.locked τ.next)  (Nat.le_refl _) ) (by simp -implicitDefEqProofs only [TT,Ic.t,Ic.ci,Nat.reduceEqDiff,reduceIte,Nat.reduceAdd,Nat.reduceMul,Nat.reduceLT,Nat.reduceLeDiff,Nat.reduceSub,reduceCtorEq,Int.reduceEq,Int.reduceNe,Int.reduceToNat,Int.reduceLT,Int.reduceLE,Int.reduceNeg,hl,CL,LTN])
end Go.Proofs.Ytdcfoaafkppojaa
