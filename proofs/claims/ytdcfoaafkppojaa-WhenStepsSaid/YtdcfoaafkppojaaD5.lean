/- Functions of numbers and lists, printed by a program of ours out of the code for the tree level, with their proofs. -/
import Derived.Test.YtdcfoaafkppojaaD4
set_option linter.unusedVariables false
set_option linter.unusedSimpArgs false
set_option linter.unusedSectionVars false
namespace Go.Proofs.Ytdcfoaafkppojaa
open Go Go.RowKit Sh Ic
noncomputable def handsellaw06_WhenSteps_f (p1 : Int) (p2 : Int) (p3 : Int) : Option Bool :=
  handsellaw00_Place_f p1 (5 : Int) >>= fun y1 =>
  handsellaw00_Place_f p2 (1099511627777 : Int) >>= fun y3 =>
  handsellaw00_Place_f p3 (1048576 : Int) >>= fun y5 =>
  handsellaw00_Ring_f (IntKind.i64.wrap ((2 : Int) + y1)) y3 (IntKind.i64.wrap ((1 : Int) + y5)) >>= fun y7 =>
  when_Table_f y7 >>= fun y9 =>
  if ((y9.length : Nat) : Int) = (IntKind.i64.wrap ((2 : Int) + y1)) then
    ixL y9 (0 : Int) >>= fun y12 =>
    if y12 = (IntKind.i64.wrap (y3 + (IntKind.i64.wrap ((IntKind.i64.wrap ((2 : Int) + y1)) * (IntKind.i64.wrap ((1 : Int) + y5)))))) then
      ixL y9 (IntKind.i64.wrap ((IntKind.i64.wrap ((2 : Int) + y1)) - (1 : Int))) >>= fun y15 =>
      when_Last_f y7 >>= fun y17 =>
      if y17 = y15 then
        when_End_f y7 >>= fun y20 =>
        if y20 = (IntKind.i64.wrap (y15 + (IntKind.i64.wrap ((1 : Int) + y5)))) then
          handsellaw06_WhenSteps_f_l1 (IntKind.i64.wrap ((2 : Int) + y1)) (IntKind.i64.wrap ((1 : Int) + y5)) y7 y9 (1 : Int) >>= fun y23 =>
          match y23 with
          | .ex w24 =>
            when_Deadline_f y7 (-5 : Int) >>= fun y28 =>
            if y28 = y12 then
              when_Deadline_f y7 (IntKind.i64.wrap ((IntKind.i64.wrap ((2 : Int) + y1)) + (9 : Int))) >>= fun y31 =>
              if y31 = y15 then
                handsellaw06_awake_f >>= fun y34 =>
                some y34
              else
              some false
            else
            some false
          | .rt w26 =>
            some w26
        else
        some false
      else
      some false
    else
    some false
  else
  some false
theorem handsellaw06_WhenSteps_f_s (p1 : Int) (p2 : Int) (p3 : Int) (r : Bool) (h : handsellaw06_WhenSteps_f p1 p2 p3 = some r) (τ : TH) (hl : τ.lock ≤ τ.next) : Ru G F_handsellaw06_WhenSteps [.int .i64 p1,.int .i64 p2,.int .i64 p3] τ (.bool r) τ := by
  refine Ru_of fun K hK => ?_
  rw [tC_code g_handsellaw06_WhenSteps (Nat.le_of_ble_eq_true rfl)]
  unfold handsellaw06_WhenSteps_f at h
  obtain ⟨y1,hy1,h⟩ := ob h
  have k2 := handsellaw00_Place_f_k p1 (5 : Int) _ hy1
  try simp only [CL,MC,Int.reduceToNat] at k2
  obtain ⟨y3,hy3,h⟩ := ob h
  have k4 := handsellaw00_Place_f_k p2 (1099511627777 : Int) _ hy3
  try simp only [CL,MC,Int.reduceToNat] at k4
  obtain ⟨y5,hy5,h⟩ := ob h
  have k6 := handsellaw00_Place_f_k p3 (1048576 : Int) _ hy5
  try simp only [CL,MC,Int.reduceToNat] at k6
  obtain ⟨y7,hy7,h⟩ := ob h
  have k8 := handsellaw00_Ring_f_k (IntKind.i64.wrap ((2 : Int) + y1)) y3 (IntKind.i64.wrap ((1 : Int) + y5)) _ hy7
  try simp only [CL,MC,Int.reduceToNat] at k8
  obtain ⟨y9,hy9,h⟩ := ob h
  have k10 := when_Table_f_k y7 _ hy9
  try simp only [CL,MC,Int.reduceToNat] at k10
  by_cases c11 : ((y9.length : Nat) : Int) = (IntKind.i64.wrap ((2 : Int) + y1))
  · rw [if_pos c11] at h
    obtain ⟨y12,hy12,h⟩ := ob h
    have f13 := ixL_facts hy12
    have f13a := (f13.2.2 (TV.int .i64)).1
    have f13b := (f13.2.2 (TV.int .i64)).2
    try simp only [CL,MC,Int.reduceToNat] at f13 f13a f13b
    by_cases c14 : y12 = (IntKind.i64.wrap (y3 + (IntKind.i64.wrap ((IntKind.i64.wrap ((2 : Int) + y1)) * (IntKind.i64.wrap ((1 : Int) + y5))))))
    · rw [if_pos c14] at h
      obtain ⟨y15,hy15,h⟩ := ob h
      have f16 := ixL_facts hy15
      have f16a := (f16.2.2 (TV.int .i64)).1
      have f16b := (f16.2.2 (TV.int .i64)).2
      try simp only [CL,MC,Int.reduceToNat] at f16 f16a f16b
      obtain ⟨y17,hy17,h⟩ := ob h
      have k18 := when_Last_f_k y7 _ hy17
      try simp only [CL,MC,Int.reduceToNat] at k18
      by_cases c19 : y17 = y15
      · rw [if_pos c19] at h
        obtain ⟨y20,hy20,h⟩ := ob h
        have k21 := when_End_f_k y7 _ hy20
        try simp only [CL,MC,Int.reduceToNat] at k21
        by_cases c22 : y20 = (IntKind.i64.wrap (y15 + (IntKind.i64.wrap ((1 : Int) + y5))))
        · rw [if_pos c22] at h
          obtain ⟨y23,hy23,h⟩ := ob h
          simp -implicitDefEqProofs only [U_handsellaw06_WhenSteps,TT,Ic.t,Ic.ci,Nat.reduceEqDiff,reduceIte,Nat.reduceAdd,Nat.reduceMul,Nat.reduceLT,Nat.reduceLeDiff,Nat.reduceSub,reduceCtorEq,Int.reduceEq,Int.reduceNe,Int.reduceToNat,Int.reduceLT,Int.reduceLE,Int.reduceNeg,hl,k2,k4,k6,k8,k10,eq_true c11,f13.1,f13.2.1,f13a,f13b,eq_true c14,f16.1,f16.2.1,f16a,f16b,k18,eq_true c19,k21,eq_true c22,CL,LTN]
          have Sy23 := handsellaw06_WhenSteps_f_l1_s (IntKind.i64.wrap ((2 : Int) + y1)) (IntKind.i64.wrap ((1 : Int) + y5)) y7 y9 (1 : Int) y23 hy23
          unfold handsellaw06_WhenSteps_f_l1_P at Sy23
          refine Sy23 _ τ.next (by first | assumption | omega | (simp only [next_pt,next_pu,lock_pt,lock_pu]; omega)) (by simp -implicitDefEqProofs only [TT,Ic.t,Ic.ci,Nat.reduceEqDiff,reduceIte,Nat.reduceAdd,Nat.reduceMul,Nat.reduceLT,Nat.reduceLeDiff,Nat.reduceSub,reduceCtorEq,Int.reduceEq,Int.reduceNe,Int.reduceToNat,Int.reduceLT,Int.reduceLE,Int.reduceNeg,hl,k2,k4,k6,k8,k10,eq_true c11,f13.1,f13.2.1,f13a,f13b,eq_true c14,f16.1,f16.2.1,f16a,f16b,k18,eq_true c19,k21,eq_true c22,CL,LTN]) (by first | assumption | omega | (simp only [next_pt,next_pu,lock_pt,lock_pu]; omega)) _ ?_ ?_
          · intro w24 e frq25 tkq25 τq25 g7q25 g10q25 g11q25 htq25 hcq25
            subst e
            simp only at h
            have hcq25 := cut_via (n := τ.next + 1) hcq25 (by first | omega | (simp only [next_pt,next_pu]; omega))
            try simp only [List.take_succ_cons,List.take_zero,List.take_nil,CL] at htq25
            try simp -implicitDefEqProofs only [TT,Ic.t,Ic.ci,Nat.reduceEqDiff,reduceIte,Nat.reduceAdd,Nat.reduceMul,Nat.reduceLT,Nat.reduceLeDiff,Nat.reduceSub,reduceCtorEq,Int.reduceEq,Int.reduceNe,Int.reduceToNat,Int.reduceLT,Int.reduceLE,Int.reduceNeg,hl,k2,k4,k6,k8,k10,eq_true c11,f13.1,f13.2.1,f13a,f13b,eq_true c14,f16.1,f16.2.1,f16a,f16b,k18,eq_true c19,k21,eq_true c22,CL,LTN] at hcq25
            obtain ⟨y28,hy28,h⟩ := ob h
            have k29 := when_Deadline_f_k y7 (-5 : Int) _ hy28
            try simp only [CL,MC,Int.reduceToNat] at k29
            by_cases c30 : y28 = y12
            · rw [if_pos c30] at h
              obtain ⟨y31,hy31,h⟩ := ob h
              have k32 := when_Deadline_f_k y7 (IntKind.i64.wrap ((IntKind.i64.wrap ((2 : Int) + y1)) + (9 : Int))) _ hy31
              try simp only [CL,MC,Int.reduceToNat] at k32
              by_cases c33 : y31 = y15
              · rw [if_pos c33] at h
                obtain ⟨y34,hy34,h⟩ := ob h
                have k35 := handsellaw06_awake_f_k  _ hy34
                try simp only [CL,MC,Int.reduceToNat] at k35
                injection h with h; subst h
                simp -implicitDefEqProofs only [U_handsellaw06_WhenSteps,TT,Ic.t,Ic.ci,Nat.reduceEqDiff,reduceIte,Nat.reduceAdd,Nat.reduceMul,Nat.reduceLT,Nat.reduceLeDiff,Nat.reduceSub,reduceCtorEq,Int.reduceEq,Int.reduceNe,Int.reduceToNat,Int.reduceLT,Int.reduceLE,Int.reduceNeg,hl,k2,k4,k6,k8,k10,eq_true c11,f13.1,f13.2.1,f13a,f13b,eq_true c14,f16.1,f16.2.1,f16a,f16b,k18,eq_true c19,k21,eq_true c22,g7q25,g10q25,g11q25,htq25,hcq25,k29,eq_true c30,k32,eq_true c33,k35,CL,LTN]
                exact hK
              rw [if_neg c33] at h
              injection h with h; subst h
              simp -implicitDefEqProofs only [U_handsellaw06_WhenSteps,TT,Ic.t,Ic.ci,Nat.reduceEqDiff,reduceIte,Nat.reduceAdd,Nat.reduceMul,Nat.reduceLT,Nat.reduceLeDiff,Nat.reduceSub,reduceCtorEq,Int.reduceEq,Int.reduceNe,Int.reduceToNat,Int.reduceLT,Int.reduceLE,Int.reduceNeg,hl,k2,k4,k6,k8,k10,eq_true c11,f13.1,f13.2.1,f13a,f13b,eq_true c14,f16.1,f16.2.1,f16a,f16b,k18,eq_true c19,k21,eq_true c22,g7q25,g10q25,g11q25,htq25,hcq25,k29,eq_true c30,k32,c33,CL,LTN]
              exact hK
            rw [if_neg c30] at h
            injection h with h; subst h
            simp -implicitDefEqProofs only [U_handsellaw06_WhenSteps,TT,Ic.t,Ic.ci,Nat.reduceEqDiff,reduceIte,Nat.reduceAdd,Nat.reduceMul,Nat.reduceLT,Nat.reduceLeDiff,Nat.reduceSub,reduceCtorEq,Int.reduceEq,Int.reduceNe,Int.reduceToNat,Int.reduceLT,Int.reduceLE,Int.reduceNeg,hl,k2,k4,k6,k8,k10,eq_true c11,f13.1,f13.2.1,f13a,f13b,eq_true c14,f16.1,f16.2.1,f16a,f16b,k18,eq_true c19,k21,eq_true c22,g7q25,g10q25,g11q25,htq25,hcq25,k29,c30,CL,LTN]
            exact hK
          intro w26 e tkq27 τq27 hcq27
          subst e
          simp only at h
          have hcq27 := cut_via (n := τ.next) hcq27 (by first | omega | (simp only [next_pt,next_pu]; omega))
          try simp -implicitDefEqProofs only [TT,Ic.t,Ic.ci,Nat.reduceEqDiff,reduceIte,Nat.reduceAdd,Nat.reduceMul,Nat.reduceLT,Nat.reduceLeDiff,Nat.reduceSub,reduceCtorEq,Int.reduceEq,Int.reduceNe,Int.reduceToNat,Int.reduceLT,Int.reduceLE,Int.reduceNeg,hl,k2,k4,k6,k8,k10,eq_true c11,f13.1,f13.2.1,f13a,f13b,eq_true c14,f16.1,f16.2.1,f16a,f16b,k18,eq_true c19,k21,eq_true c22,CL,LTN] at hcq27
          injection h with h; subst h
          simp -implicitDefEqProofs only [U_handsellaw06_WhenSteps,TT,Ic.t,Ic.ci,Nat.reduceEqDiff,reduceIte,Nat.reduceAdd,Nat.reduceMul,Nat.reduceLT,Nat.reduceLeDiff,Nat.reduceSub,reduceCtorEq,Int.reduceEq,Int.reduceNe,Int.reduceToNat,Int.reduceLT,Int.reduceLE,Int.reduceNeg,hl,k2,k4,k6,k8,k10,eq_true c11,f13.1,f13.2.1,f13a,f13b,eq_true c14,f16.1,f16.2.1,f16a,f16b,k18,eq_true c19,k21,eq_true c22,hcq27,CL,LTN]
          exact hK
        rw [if_neg c22] at h
        injection h with h; subst h
        simp -implicitDefEqProofs only [U_handsellaw06_WhenSteps,TT,Ic.t,Ic.ci,Nat.reduceEqDiff,reduceIte,Nat.reduceAdd,Nat.reduceMul,Nat.reduceLT,Nat.reduceLeDiff,Nat.reduceSub,reduceCtorEq,Int.reduceEq,Int.reduceNe,Int.reduceToNat,Int.reduceLT,Int.reduceLE,Int.reduceNeg,hl,k2,k4,k6,k8,k10,eq_true c11,f13.1,f13.2.1,f13a,f13b,eq_true c14,f16.1,f16.2.1,f16a,f16b,k18,eq_true c19,k21,c22,CL,LTN]
        exact hK
      rw [if_neg c19] at h
      injection h with h; subst h
      simp -implicitDefEqProofs only [U_handsellaw06_WhenSteps,TT,Ic.t,Ic.ci,Nat.reduceEqDiff,reduceIte,Nat.reduceAdd,Nat.reduceMul,Nat.reduceLT,Nat.reduceLeDiff,Nat.reduceSub,reduceCtorEq,Int.reduceEq,Int.reduceNe,Int.reduceToNat,Int.reduceLT,Int.reduceLE,Int.reduceNeg,hl,k2,k4,k6,k8,k10,eq_true c11,f13.1,f13.2.1,f13a,f13b,eq_true c14,f16.1,f16.2.1,f16a,f16b,k18,c19,CL,LTN]
      exact hK
    rw [if_neg c14] at h
    injection h with h; subst h
    simp -implicitDefEqProofs only [U_handsellaw06_WhenSteps,TT,Ic.t,Ic.ci,Nat.reduceEqDiff,reduceIte,Nat.reduceAdd,Nat.reduceMul,Nat.reduceLT,Nat.reduceLeDiff,Nat.reduceSub,reduceCtorEq,Int.reduceEq,Int.reduceNe,Int.reduceToNat,Int.reduceLT,Int.reduceLE,Int.reduceNeg,hl,k2,k4,k6,k8,k10,eq_true c11,f13.1,f13.2.1,f13a,f13b,c14,CL,LTN]
    exact hK
  rw [if_neg c11] at h
  injection h with h; subst h
  simp -implicitDefEqProofs only [U_handsellaw06_WhenSteps,TT,Ic.t,Ic.ci,Nat.reduceEqDiff,reduceIte,Nat.reduceAdd,Nat.reduceMul,Nat.reduceLT,Nat.reduceLeDiff,Nat.reduceSub,reduceCtorEq,Int.reduceEq,Int.reduceNe,Int.reduceToNat,Int.reduceLT,Int.reduceLE,Int.reduceNeg,hl,k2,k4,k6,k8,k10,c11,CL,LTN]
  exact hK
theorem handsellaw06_WhenSteps_f_k (p1 : Int) (p2 : Int) (p3 : Int) (r : Bool) (h : handsellaw06_WhenSteps_f p1 p2 p3 = some r) (lk : Bool) (d : Option Nat) (K : TCont) (fr : TF) (tk : TK) (τ : TH) (hl : τ.lock ≤ τ.next) : callK G lk F_handsellaw06_WhenSteps [.int .i64 p1,.int .i64 p2,.int .i64 p3] d K fr tk τ = K (tput fr d (.bool r)) tk τ :=
  callK_rdo (handsellaw06_WhenSteps_f_s p1 p2 p3 r h τ  hl) (handsellaw06_WhenSteps_f_s p1 p2 p3 r h (τ.locked τ.next)  (Nat.le_refl _) ) (by simp -implicitDefEqProofs only [TT,Ic.t,Ic.ci,Nat.reduceEqDiff,reduceIte,Nat.reduceAdd,Nat.reduceMul,Nat.reduceLT,Nat.reduceLeDiff,Nat.reduceSub,reduceCtorEq,Int.reduceEq,Int.reduceNe,Int.reduceToNat,Int.reduceLT,Int.reduceLE,Int.reduceNeg,hl,CL,LTN])
noncomputable def handsellaw06_WhenNone_f (p1 : Int) (p2 : Int) (p3 : Int) : Option Bool :=
  handsellaw00_Place_f p1 (5 : Int) >>= fun y1 =>
  handsellaw00_Ring_f (IntKind.i64.wrap ((2 : Int) + y1)) (5 : Int) (6 : Int) >>= fun y3 =>
  when_End_f y3 >>= fun y5 =>
  if y5 = (IntKind.i64.wrap ((5 : Int) + (IntKind.i64.wrap ((12 : Int) * ((y3.Parties.length : Nat) : Int))))) then
    handsellaw00_Place_f p2 (5 : Int) >>= fun y8 =>
    if y8 = (0 : Int) then
      when_End_f (⟨y3.ID,y3.Parties,y3.Arcs,y3.Leaders,y3.Locks,y3.Start,(0 : Int)⟩ : S_api_Spec) >>= fun y11 =>
      if y11 = (0 : Int) then
        when_Last_f (⟨y3.ID,y3.Parties,y3.Arcs,y3.Leaders,y3.Locks,y3.Start,(0 : Int)⟩ : S_api_Spec) >>= fun y14 =>
        if y14 = (0 : Int) then
          when_Deadline_f (⟨y3.ID,y3.Parties,y3.Arcs,y3.Leaders,y3.Locks,y3.Start,(0 : Int)⟩ : S_api_Spec) p3 >>= fun y17 =>
          if y17 = (0 : Int) then
            when_Table_f (⟨y3.ID,y3.Parties,y3.Arcs,y3.Leaders,y3.Locks,y3.Start,(0 : Int)⟩ : S_api_Spec) >>= fun y20 =>
            if ((y20.length : Nat) : Int) = (0 : Int) then
              handsellaw06_awake_f >>= fun y23 =>
              some y23
            else
            some false
          else
          some false
        else
        some false
      else
      some false
    else
    if y8 = (1 : Int) then
      when_End_f (⟨y3.ID,y3.Parties,y3.Arcs,y3.Leaders,y3.Locks,(-1 : Int),y3.Delta⟩ : S_api_Spec) >>= fun y26 =>
      if y26 = (0 : Int) then
        when_Last_f (⟨y3.ID,y3.Parties,y3.Arcs,y3.Leaders,y3.Locks,(-1 : Int),y3.Delta⟩ : S_api_Spec) >>= fun y29 =>
        if y29 = (0 : Int) then
          when_Deadline_f (⟨y3.ID,y3.Parties,y3.Arcs,y3.Leaders,y3.Locks,(-1 : Int),y3.Delta⟩ : S_api_Spec) p3 >>= fun y32 =>
          if y32 = (0 : Int) then
            when_Table_f (⟨y3.ID,y3.Parties,y3.Arcs,y3.Leaders,y3.Locks,(-1 : Int),y3.Delta⟩ : S_api_Spec) >>= fun y35 =>
            if ((y35.length : Nat) : Int) = (0 : Int) then
              handsellaw06_awake_f >>= fun y38 =>
              some y38
            else
            some false
          else
          some false
        else
        some false
      else
      some false
    else
    if y8 = (2 : Int) then
      when_End_f (⟨(⟨#[]⟩ : ByteArray),y3.Parties,y3.Arcs,y3.Leaders,y3.Locks,y3.Start,y3.Delta⟩ : S_api_Spec) >>= fun y41 =>
      if y41 = (0 : Int) then
        when_Last_f (⟨(⟨#[]⟩ : ByteArray),y3.Parties,y3.Arcs,y3.Leaders,y3.Locks,y3.Start,y3.Delta⟩ : S_api_Spec) >>= fun y44 =>
        if y44 = (0 : Int) then
          when_Deadline_f (⟨(⟨#[]⟩ : ByteArray),y3.Parties,y3.Arcs,y3.Leaders,y3.Locks,y3.Start,y3.Delta⟩ : S_api_Spec) p3 >>= fun y47 =>
          if y47 = (0 : Int) then
            when_Table_f (⟨(⟨#[]⟩ : ByteArray),y3.Parties,y3.Arcs,y3.Leaders,y3.Locks,y3.Start,y3.Delta⟩ : S_api_Spec) >>= fun y50 =>
            if ((y50.length : Nat) : Int) = (0 : Int) then
              handsellaw06_awake_f >>= fun y53 =>
              some y53
            else
            some false
          else
          some false
        else
        some false
      else
      some false
    else
    if y8 = (3 : Int) then
      when_End_f (⟨y3.ID,y3.Parties,[],y3.Leaders,y3.Locks,y3.Start,y3.Delta⟩ : S_api_Spec) >>= fun y56 =>
      if y56 = (0 : Int) then
        when_Last_f (⟨y3.ID,y3.Parties,[],y3.Leaders,y3.Locks,y3.Start,y3.Delta⟩ : S_api_Spec) >>= fun y59 =>
        if y59 = (0 : Int) then
          when_Deadline_f (⟨y3.ID,y3.Parties,[],y3.Leaders,y3.Locks,y3.Start,y3.Delta⟩ : S_api_Spec) p3 >>= fun y62 =>
          if y62 = (0 : Int) then
            when_Table_f (⟨y3.ID,y3.Parties,[],y3.Leaders,y3.Locks,y3.Start,y3.Delta⟩ : S_api_Spec) >>= fun y65 =>
            if ((y65.length : Nat) : Int) = (0 : Int) then
              handsellaw06_awake_f >>= fun y68 =>
              some y68
            else
            some false
          else
          some false
        else
        some false
      else
      some false
    else
    when_End_f (⟨y3.ID,y3.Parties,y3.Arcs,y3.Leaders,y3.Locks,y3.Start,(1048577 : Int)⟩ : S_api_Spec) >>= fun y70 =>
    if y70 = (0 : Int) then
      when_Last_f (⟨y3.ID,y3.Parties,y3.Arcs,y3.Leaders,y3.Locks,y3.Start,(1048577 : Int)⟩ : S_api_Spec) >>= fun y73 =>
      if y73 = (0 : Int) then
        when_Deadline_f (⟨y3.ID,y3.Parties,y3.Arcs,y3.Leaders,y3.Locks,y3.Start,(1048577 : Int)⟩ : S_api_Spec) p3 >>= fun y76 =>
        if y76 = (0 : Int) then
          when_Table_f (⟨y3.ID,y3.Parties,y3.Arcs,y3.Leaders,y3.Locks,y3.Start,(1048577 : Int)⟩ : S_api_Spec) >>= fun y79 =>
          if ((y79.length : Nat) : Int) = (0 : Int) then
            handsellaw06_awake_f >>= fun y82 =>
            some y82
          else
          some false
        else
        some false
      else
      some false
    else
    some false
  else
  some false
theorem handsellaw06_WhenNone_f_s (p1 : Int) (p2 : Int) (p3 : Int) (r : Bool) (h : handsellaw06_WhenNone_f p1 p2 p3 = some r) (τ : TH) (hl : τ.lock ≤ τ.next) : Ru G F_handsellaw06_WhenNone [.int .i64 p1,.int .i64 p2,.int .i64 p3] τ (.bool r) τ := by
  refine Ru_of fun K hK => ?_
  rw [tC_code g_handsellaw06_WhenNone (Nat.le_of_ble_eq_true rfl)]
  unfold handsellaw06_WhenNone_f at h
  obtain ⟨y1,hy1,h⟩ := ob h
  have k2 := handsellaw00_Place_f_k p1 (5 : Int) _ hy1
  try simp only [CL,MC,Int.reduceToNat] at k2
  obtain ⟨y3,hy3,h⟩ := ob h
  have k4 := handsellaw00_Ring_f_k (IntKind.i64.wrap ((2 : Int) + y1)) (5 : Int) (6 : Int) _ hy3
  try simp only [CL,MC,Int.reduceToNat] at k4
  obtain ⟨y5,hy5,h⟩ := ob h
  have k6 := when_End_f_k y3 _ hy5
  try simp only [CL,MC,Int.reduceToNat] at k6
  by_cases c7 : y5 = (IntKind.i64.wrap ((5 : Int) + (IntKind.i64.wrap ((12 : Int) * ((y3.Parties.length : Nat) : Int)))))
  · rw [if_pos c7] at h
    obtain ⟨y8,hy8,h⟩ := ob h
    have k9 := handsellaw00_Place_f_k p2 (5 : Int) _ hy8
    try simp only [CL,MC,Int.reduceToNat] at k9
    by_cases c10 : y8 = (0 : Int)
    · rw [if_pos c10] at h
      obtain ⟨y11,hy11,h⟩ := ob h
      have k12 := when_End_f_k (⟨y3.ID,y3.Parties,y3.Arcs,y3.Leaders,y3.Locks,y3.Start,(0 : Int)⟩ : S_api_Spec) _ hy11
      try simp only [CL,MC,Int.reduceToNat] at k12
      by_cases c13 : y11 = (0 : Int)
      · rw [if_pos c13] at h
        obtain ⟨y14,hy14,h⟩ := ob h
        have k15 := when_Last_f_k (⟨y3.ID,y3.Parties,y3.Arcs,y3.Leaders,y3.Locks,y3.Start,(0 : Int)⟩ : S_api_Spec) _ hy14
        try simp only [CL,MC,Int.reduceToNat] at k15
        by_cases c16 : y14 = (0 : Int)
        · rw [if_pos c16] at h
          obtain ⟨y17,hy17,h⟩ := ob h
          have k18 := when_Deadline_f_k (⟨y3.ID,y3.Parties,y3.Arcs,y3.Leaders,y3.Locks,y3.Start,(0 : Int)⟩ : S_api_Spec) p3 _ hy17
          try simp only [CL,MC,Int.reduceToNat] at k18
          by_cases c19 : y17 = (0 : Int)
          · rw [if_pos c19] at h
            obtain ⟨y20,hy20,h⟩ := ob h
            have k21 := when_Table_f_k (⟨y3.ID,y3.Parties,y3.Arcs,y3.Leaders,y3.Locks,y3.Start,(0 : Int)⟩ : S_api_Spec) _ hy20
            try simp only [CL,MC,Int.reduceToNat] at k21
            by_cases c22 : ((y20.length : Nat) : Int) = (0 : Int)
            · rw [if_pos c22] at h
              obtain ⟨y23,hy23,h⟩ := ob h
              have k24 := handsellaw06_awake_f_k  _ hy23
              try simp only [CL,MC,Int.reduceToNat] at k24
              injection h with h; subst h
              simp -implicitDefEqProofs only [U_handsellaw06_WhenNone,TT,Ic.t,Ic.ci,Nat.reduceEqDiff,reduceIte,Nat.reduceAdd,Nat.reduceMul,Nat.reduceLT,Nat.reduceLeDiff,Nat.reduceSub,reduceCtorEq,Int.reduceEq,Int.reduceNe,Int.reduceToNat,Int.reduceLT,Int.reduceLE,Int.reduceNeg,hl,k2,k4,k6,eq_true c7,k9,eq_true c10,k12,eq_true c13,k15,eq_true c16,k18,eq_true c19,k21,eq_true c22,k24,CL,LTN]
              exact hK
            rw [if_neg c22] at h
            injection h with h; subst h
            simp -implicitDefEqProofs only [U_handsellaw06_WhenNone,TT,Ic.t,Ic.ci,Nat.reduceEqDiff,reduceIte,Nat.reduceAdd,Nat.reduceMul,Nat.reduceLT,Nat.reduceLeDiff,Nat.reduceSub,reduceCtorEq,Int.reduceEq,Int.reduceNe,Int.reduceToNat,Int.reduceLT,Int.reduceLE,Int.reduceNeg,hl,k2,k4,k6,eq_true c7,k9,eq_true c10,k12,eq_true c13,k15,eq_true c16,k18,eq_true c19,k21,c22,CL,LTN]
            exact hK
          rw [if_neg c19] at h
          injection h with h; subst h
          simp -implicitDefEqProofs only [U_handsellaw06_WhenNone,TT,Ic.t,Ic.ci,Nat.reduceEqDiff,reduceIte,Nat.reduceAdd,Nat.reduceMul,Nat.reduceLT,Nat.reduceLeDiff,Nat.reduceSub,reduceCtorEq,Int.reduceEq,Int.reduceNe,Int.reduceToNat,Int.reduceLT,Int.reduceLE,Int.reduceNeg,hl,k2,k4,k6,eq_true c7,k9,eq_true c10,k12,eq_true c13,k15,eq_true c16,k18,c19,CL,LTN]
          exact hK
        rw [if_neg c16] at h
        injection h with h; subst h
        simp -implicitDefEqProofs only [U_handsellaw06_WhenNone,TT,Ic.t,Ic.ci,Nat.reduceEqDiff,reduceIte,Nat.reduceAdd,Nat.reduceMul,Nat.reduceLT,Nat.reduceLeDiff,Nat.reduceSub,reduceCtorEq,Int.reduceEq,Int.reduceNe,Int.reduceToNat,Int.reduceLT,Int.reduceLE,Int.reduceNeg,hl,k2,k4,k6,eq_true c7,k9,eq_true c10,k12,eq_true c13,k15,c16,CL,LTN]
        exact hK
      rw [if_neg c13] at h
      injection h with h; subst h
      simp -implicitDefEqProofs only [U_handsellaw06_WhenNone,TT,Ic.t,Ic.ci,Nat.reduceEqDiff,reduceIte,Nat.reduceAdd,Nat.reduceMul,Nat.reduceLT,Nat.reduceLeDiff,Nat.reduceSub,reduceCtorEq,Int.reduceEq,Int.reduceNe,Int.reduceToNat,Int.reduceLT,Int.reduceLE,Int.reduceNeg,hl,k2,k4,k6,eq_true c7,k9,eq_true c10,k12,c13,CL,LTN]
      exact hK
    rw [if_neg c10] at h
    by_cases c25 : y8 = (1 : Int)
    · rw [if_pos c25] at h
      obtain ⟨y26,hy26,h⟩ := ob h
      have k27 := when_End_f_k (⟨y3.ID,y3.Parties,y3.Arcs,y3.Leaders,y3.Locks,(-1 : Int),y3.Delta⟩ : S_api_Spec) _ hy26
      try simp only [CL,MC,Int.reduceToNat] at k27
      by_cases c28 : y26 = (0 : Int)
      · rw [if_pos c28] at h
        obtain ⟨y29,hy29,h⟩ := ob h
        have k30 := when_Last_f_k (⟨y3.ID,y3.Parties,y3.Arcs,y3.Leaders,y3.Locks,(-1 : Int),y3.Delta⟩ : S_api_Spec) _ hy29
        try simp only [CL,MC,Int.reduceToNat] at k30
        by_cases c31 : y29 = (0 : Int)
        · rw [if_pos c31] at h
          obtain ⟨y32,hy32,h⟩ := ob h
          have k33 := when_Deadline_f_k (⟨y3.ID,y3.Parties,y3.Arcs,y3.Leaders,y3.Locks,(-1 : Int),y3.Delta⟩ : S_api_Spec) p3 _ hy32
          try simp only [CL,MC,Int.reduceToNat] at k33
          by_cases c34 : y32 = (0 : Int)
          · rw [if_pos c34] at h
            obtain ⟨y35,hy35,h⟩ := ob h
            have k36 := when_Table_f_k (⟨y3.ID,y3.Parties,y3.Arcs,y3.Leaders,y3.Locks,(-1 : Int),y3.Delta⟩ : S_api_Spec) _ hy35
            try simp only [CL,MC,Int.reduceToNat] at k36
            by_cases c37 : ((y35.length : Nat) : Int) = (0 : Int)
            · rw [if_pos c37] at h
              obtain ⟨y38,hy38,h⟩ := ob h
              have k39 := handsellaw06_awake_f_k  _ hy38
              try simp only [CL,MC,Int.reduceToNat] at k39
              injection h with h; subst h
              simp -implicitDefEqProofs only [U_handsellaw06_WhenNone,TT,Ic.t,Ic.ci,Nat.reduceEqDiff,reduceIte,Nat.reduceAdd,Nat.reduceMul,Nat.reduceLT,Nat.reduceLeDiff,Nat.reduceSub,reduceCtorEq,Int.reduceEq,Int.reduceNe,Int.reduceToNat,Int.reduceLT,Int.reduceLE,Int.reduceNeg,hl,k2,k4,k6,eq_true c7,k9,c10,eq_true c25,k27,eq_true c28,k30,eq_true c31,k33,eq_true c34,k36,eq_true c37,k39,CL,LTN]
              exact hK
            rw [if_neg c37] at h
            injection h with h; subst h
            simp -implicitDefEqProofs only [U_handsellaw06_WhenNone,TT,Ic.t,Ic.ci,Nat.reduceEqDiff,reduceIte,Nat.reduceAdd,Nat.reduceMul,Nat.reduceLT,Nat.reduceLeDiff,Nat.reduceSub,reduceCtorEq,Int.reduceEq,Int.reduceNe,Int.reduceToNat,Int.reduceLT,Int.reduceLE,Int.reduceNeg,hl,k2,k4,k6,eq_true c7,k9,c10,eq_true c25,k27,eq_true c28,k30,eq_true c31,k33,eq_true c34,k36,c37,CL,LTN]
            exact hK
          rw [if_neg c34] at h
          injection h with h; subst h
          simp -implicitDefEqProofs only [U_handsellaw06_WhenNone,TT,Ic.t,Ic.ci,Nat.reduceEqDiff,reduceIte,Nat.reduceAdd,Nat.reduceMul,Nat.reduceLT,Nat.reduceLeDiff,Nat.reduceSub,reduceCtorEq,Int.reduceEq,Int.reduceNe,Int.reduceToNat,Int.reduceLT,Int.reduceLE,Int.reduceNeg,hl,k2,k4,k6,eq_true c7,k9,c10,eq_true c25,k27,eq_true c28,k30,eq_true c31,k33,c34,CL,LTN]
          exact hK
        rw [if_neg c31] at h
        injection h with h; subst h
        simp -implicitDefEqProofs only [U_handsellaw06_WhenNone,TT,Ic.t,Ic.ci,Nat.reduceEqDiff,reduceIte,Nat.reduceAdd,Nat.reduceMul,Nat.reduceLT,Nat.reduceLeDiff,Nat.reduceSub,reduceCtorEq,Int.reduceEq,Int.reduceNe,Int.reduceToNat,Int.reduceLT,Int.reduceLE,Int.reduceNeg,hl,k2,k4,k6,eq_true c7,k9,c10,eq_true c25,k27,eq_true c28,k30,c31,CL,LTN]
        exact hK
      rw [if_neg c28] at h
      injection h with h; subst h
      simp -implicitDefEqProofs only [U_handsellaw06_WhenNone,TT,Ic.t,Ic.ci,Nat.reduceEqDiff,reduceIte,Nat.reduceAdd,Nat.reduceMul,Nat.reduceLT,Nat.reduceLeDiff,Nat.reduceSub,reduceCtorEq,Int.reduceEq,Int.reduceNe,Int.reduceToNat,Int.reduceLT,Int.reduceLE,Int.reduceNeg,hl,k2,k4,k6,eq_true c7,k9,c10,eq_true c25,k27,c28,CL,LTN]
      exact hK
    rw [if_neg c25] at h
    by_cases c40 : y8 = (2 : Int)
    · rw [if_pos c40] at h
      obtain ⟨y41,hy41,h⟩ := ob h
      have k42 := when_End_f_k (⟨(⟨#[]⟩ : ByteArray),y3.Parties,y3.Arcs,y3.Leaders,y3.Locks,y3.Start,y3.Delta⟩ : S_api_Spec) _ hy41
      try simp only [CL,MC,Int.reduceToNat] at k42
      by_cases c43 : y41 = (0 : Int)
      · rw [if_pos c43] at h
        obtain ⟨y44,hy44,h⟩ := ob h
        have k45 := when_Last_f_k (⟨(⟨#[]⟩ : ByteArray),y3.Parties,y3.Arcs,y3.Leaders,y3.Locks,y3.Start,y3.Delta⟩ : S_api_Spec) _ hy44
        try simp only [CL,MC,Int.reduceToNat] at k45
        by_cases c46 : y44 = (0 : Int)
        · rw [if_pos c46] at h
          obtain ⟨y47,hy47,h⟩ := ob h
          have k48 := when_Deadline_f_k (⟨(⟨#[]⟩ : ByteArray),y3.Parties,y3.Arcs,y3.Leaders,y3.Locks,y3.Start,y3.Delta⟩ : S_api_Spec) p3 _ hy47
          try simp only [CL,MC,Int.reduceToNat] at k48
          by_cases c49 : y47 = (0 : Int)
          · rw [if_pos c49] at h
            obtain ⟨y50,hy50,h⟩ := ob h
            have k51 := when_Table_f_k (⟨(⟨#[]⟩ : ByteArray),y3.Parties,y3.Arcs,y3.Leaders,y3.Locks,y3.Start,y3.Delta⟩ : S_api_Spec) _ hy50
            try simp only [CL,MC,Int.reduceToNat] at k51
            by_cases c52 : ((y50.length : Nat) : Int) = (0 : Int)
            · rw [if_pos c52] at h
              obtain ⟨y53,hy53,h⟩ := ob h
              have k54 := handsellaw06_awake_f_k  _ hy53
              try simp only [CL,MC,Int.reduceToNat] at k54
              injection h with h; subst h
              simp -implicitDefEqProofs only [U_handsellaw06_WhenNone,TT,Ic.t,Ic.ci,Nat.reduceEqDiff,reduceIte,Nat.reduceAdd,Nat.reduceMul,Nat.reduceLT,Nat.reduceLeDiff,Nat.reduceSub,reduceCtorEq,Int.reduceEq,Int.reduceNe,Int.reduceToNat,Int.reduceLT,Int.reduceLE,Int.reduceNeg,hl,k2,k4,k6,eq_true c7,k9,c10,c25,eq_true c40,k42,eq_true c43,k45,eq_true c46,k48,eq_true c49,k51,eq_true c52,k54,CL,LTN]
              exact hK
            rw [if_neg c52] at h
            injection h with h; subst h
            simp -implicitDefEqProofs only [U_handsellaw06_WhenNone,TT,Ic.t,Ic.ci,Nat.reduceEqDiff,reduceIte,Nat.reduceAdd,Nat.reduceMul,Nat.reduceLT,Nat.reduceLeDiff,Nat.reduceSub,reduceCtorEq,Int.reduceEq,Int.reduceNe,Int.reduceToNat,Int.reduceLT,Int.reduceLE,Int.reduceNeg,hl,k2,k4,k6,eq_true c7,k9,c10,c25,eq_true c40,k42,eq_true c43,k45,eq_true c46,k48,eq_true c49,k51,c52,CL,LTN]
            exact hK
          rw [if_neg c49] at h
          injection h with h; subst h
          simp -implicitDefEqProofs only [U_handsellaw06_WhenNone,TT,Ic.t,Ic.ci,Nat.reduceEqDiff,reduceIte,Nat.reduceAdd,Nat.reduceMul,Nat.reduceLT,Nat.reduceLeDiff,Nat.reduceSub,reduceCtorEq,Int.reduceEq,Int.reduceNe,Int.reduceToNat,Int.reduceLT,Int.reduceLE,Int.reduceNeg,hl,k2,k4,k6,eq_true c7,k9,c10,c25,eq_true c40,k42,eq_true c43,k45,eq_true c46,k48,c49,CL,LTN]
          exact hK
        rw [if_neg c46] at h
        injection h with h; subst h
        simp -implicitDefEqProofs only [U_handsellaw06_WhenNone,TT,Ic.t,Ic.ci,Nat.reduceEqDiff,reduceIte,Nat.reduceAdd,Nat.reduceMul,Nat.reduceLT,Nat.reduceLeDiff,Nat.reduceSub,reduceCtorEq,Int.reduceEq,Int.reduceNe,Int.reduceToNat,Int.reduceLT,Int.reduceLE,Int.reduceNeg,hl,k2,k4,k6,eq_true c7,k9,c10,c25,eq_true c40,k42,eq_true c43,k45,c46,CL,LTN]
        exact hK
      rw [if_neg c43] at h
      injection h with h; subst h
      simp -implicitDefEqProofs only [U_handsellaw06_WhenNone,TT,Ic.t,Ic.ci,Nat.reduceEqDiff,reduceIte,Nat.reduceAdd,Nat.reduceMul,Nat.reduceLT,Nat.reduceLeDiff,Nat.reduceSub,reduceCtorEq,Int.reduceEq,Int.reduceNe,Int.reduceToNat,Int.reduceLT,Int.reduceLE,Int.reduceNeg,hl,k2,k4,k6,eq_true c7,k9,c10,c25,eq_true c40,k42,c43,CL,LTN]
      exact hK
    rw [if_neg c40] at h
    by_cases c55 : y8 = (3 : Int)
    · rw [if_pos c55] at h
      obtain ⟨y56,hy56,h⟩ := ob h
      have k57 := when_End_f_k (⟨y3.ID,y3.Parties,[],y3.Leaders,y3.Locks,y3.Start,y3.Delta⟩ : S_api_Spec) _ hy56
      try simp only [CL,MC,Int.reduceToNat] at k57
      by_cases c58 : y56 = (0 : Int)
      · rw [if_pos c58] at h
        obtain ⟨y59,hy59,h⟩ := ob h
        have k60 := when_Last_f_k (⟨y3.ID,y3.Parties,[],y3.Leaders,y3.Locks,y3.Start,y3.Delta⟩ : S_api_Spec) _ hy59
        try simp only [CL,MC,Int.reduceToNat] at k60
        by_cases c61 : y59 = (0 : Int)
        · rw [if_pos c61] at h
          obtain ⟨y62,hy62,h⟩ := ob h
          have k63 := when_Deadline_f_k (⟨y3.ID,y3.Parties,[],y3.Leaders,y3.Locks,y3.Start,y3.Delta⟩ : S_api_Spec) p3 _ hy62
          try simp only [CL,MC,Int.reduceToNat] at k63
          by_cases c64 : y62 = (0 : Int)
          · rw [if_pos c64] at h
            obtain ⟨y65,hy65,h⟩ := ob h
            have k66 := when_Table_f_k (⟨y3.ID,y3.Parties,[],y3.Leaders,y3.Locks,y3.Start,y3.Delta⟩ : S_api_Spec) _ hy65
            try simp only [CL,MC,Int.reduceToNat] at k66
            by_cases c67 : ((y65.length : Nat) : Int) = (0 : Int)
            · rw [if_pos c67] at h
              obtain ⟨y68,hy68,h⟩ := ob h
              have k69 := handsellaw06_awake_f_k  _ hy68
              try simp only [CL,MC,Int.reduceToNat] at k69
              injection h with h; subst h
              simp -implicitDefEqProofs only [U_handsellaw06_WhenNone,TT,Ic.t,Ic.ci,Nat.reduceEqDiff,reduceIte,Nat.reduceAdd,Nat.reduceMul,Nat.reduceLT,Nat.reduceLeDiff,Nat.reduceSub,reduceCtorEq,Int.reduceEq,Int.reduceNe,Int.reduceToNat,Int.reduceLT,Int.reduceLE,Int.reduceNeg,hl,k2,k4,k6,eq_true c7,k9,c10,c25,c40,eq_true c55,k57,eq_true c58,k60,eq_true c61,k63,eq_true c64,k66,eq_true c67,k69,CL,LTN]
              exact hK
            rw [if_neg c67] at h
            injection h with h; subst h
            simp -implicitDefEqProofs only [U_handsellaw06_WhenNone,TT,Ic.t,Ic.ci,Nat.reduceEqDiff,reduceIte,Nat.reduceAdd,Nat.reduceMul,Nat.reduceLT,Nat.reduceLeDiff,Nat.reduceSub,reduceCtorEq,Int.reduceEq,Int.reduceNe,Int.reduceToNat,Int.reduceLT,Int.reduceLE,Int.reduceNeg,hl,k2,k4,k6,eq_true c7,k9,c10,c25,c40,eq_true c55,k57,eq_true c58,k60,eq_true c61,k63,eq_true c64,k66,c67,CL,LTN]
            exact hK
          rw [if_neg c64] at h
          injection h with h; subst h
          simp -implicitDefEqProofs only [U_handsellaw06_WhenNone,TT,Ic.t,Ic.ci,Nat.reduceEqDiff,reduceIte,Nat.reduceAdd,Nat.reduceMul,Nat.reduceLT,Nat.reduceLeDiff,Nat.reduceSub,reduceCtorEq,Int.reduceEq,Int.reduceNe,Int.reduceToNat,Int.reduceLT,Int.reduceLE,Int.reduceNeg,hl,k2,k4,k6,eq_true c7,k9,c10,c25,c40,eq_true c55,k57,eq_true c58,k60,eq_true c61,k63,c64,CL,LTN]
          exact hK
        rw [if_neg c61] at h
        injection h with h; subst h
        simp -implicitDefEqProofs only [U_handsellaw06_WhenNone,TT,Ic.t,Ic.ci,Nat.reduceEqDiff,reduceIte,Nat.reduceAdd,Nat.reduceMul,Nat.reduceLT,Nat.reduceLeDiff,Nat.reduceSub,reduceCtorEq,Int.reduceEq,Int.reduceNe,Int.reduceToNat,Int.reduceLT,Int.reduceLE,Int.reduceNeg,hl,k2,k4,k6,eq_true c7,k9,c10,c25,c40,eq_true c55,k57,eq_true c58,k60,c61,CL,LTN]
        exact hK
      rw [if_neg c58] at h
      injection h with h; subst h
      simp -implicitDefEqProofs only [U_handsellaw06_WhenNone,TT,Ic.t,Ic.ci,Nat.reduceEqDiff,reduceIte,Nat.reduceAdd,Nat.reduceMul,Nat.reduceLT,Nat.reduceLeDiff,Nat.reduceSub,reduceCtorEq,Int.reduceEq,Int.reduceNe,Int.reduceToNat,Int.reduceLT,Int.reduceLE,Int.reduceNeg,hl,k2,k4,k6,eq_true c7,k9,c10,c25,c40,eq_true c55,k57,c58,CL,LTN]
      exact hK
    rw [if_neg c55] at h
    obtain ⟨y70,hy70,h⟩ := ob h
    have k71 := when_End_f_k (⟨y3.ID,y3.Parties,y3.Arcs,y3.Leaders,y3.Locks,y3.Start,(1048577 : Int)⟩ : S_api_Spec) _ hy70
    try simp only [CL,MC,Int.reduceToNat] at k71
    by_cases c72 : y70 = (0 : Int)
    · rw [if_pos c72] at h
      obtain ⟨y73,hy73,h⟩ := ob h
      have k74 := when_Last_f_k (⟨y3.ID,y3.Parties,y3.Arcs,y3.Leaders,y3.Locks,y3.Start,(1048577 : Int)⟩ : S_api_Spec) _ hy73
      try simp only [CL,MC,Int.reduceToNat] at k74
      by_cases c75 : y73 = (0 : Int)
      · rw [if_pos c75] at h
        obtain ⟨y76,hy76,h⟩ := ob h
        have k77 := when_Deadline_f_k (⟨y3.ID,y3.Parties,y3.Arcs,y3.Leaders,y3.Locks,y3.Start,(1048577 : Int)⟩ : S_api_Spec) p3 _ hy76
        try simp only [CL,MC,Int.reduceToNat] at k77
        by_cases c78 : y76 = (0 : Int)
        · rw [if_pos c78] at h
          obtain ⟨y79,hy79,h⟩ := ob h
          have k80 := when_Table_f_k (⟨y3.ID,y3.Parties,y3.Arcs,y3.Leaders,y3.Locks,y3.Start,(1048577 : Int)⟩ : S_api_Spec) _ hy79
          try simp only [CL,MC,Int.reduceToNat] at k80
          by_cases c81 : ((y79.length : Nat) : Int) = (0 : Int)
          · rw [if_pos c81] at h
            obtain ⟨y82,hy82,h⟩ := ob h
            have k83 := handsellaw06_awake_f_k  _ hy82
            try simp only [CL,MC,Int.reduceToNat] at k83
            injection h with h; subst h
            simp -implicitDefEqProofs only [U_handsellaw06_WhenNone,TT,Ic.t,Ic.ci,Nat.reduceEqDiff,reduceIte,Nat.reduceAdd,Nat.reduceMul,Nat.reduceLT,Nat.reduceLeDiff,Nat.reduceSub,reduceCtorEq,Int.reduceEq,Int.reduceNe,Int.reduceToNat,Int.reduceLT,Int.reduceLE,Int.reduceNeg,hl,k2,k4,k6,eq_true c7,k9,c10,c25,c40,c55,k71,eq_true c72,k74,eq_true c75,k77,eq_true c78,k80,eq_true c81,k83,CL,LTN]
            exact hK
          rw [if_neg c81] at h
          injection h with h; subst h
          simp -implicitDefEqProofs only [U_handsellaw06_WhenNone,TT,Ic.t,Ic.ci,Nat.reduceEqDiff,reduceIte,Nat.reduceAdd,Nat.reduceMul,Nat.reduceLT,Nat.reduceLeDiff,Nat.reduceSub,reduceCtorEq,Int.reduceEq,Int.reduceNe,Int.reduceToNat,Int.reduceLT,Int.reduceLE,Int.reduceNeg,hl,k2,k4,k6,eq_true c7,k9,c10,c25,c40,c55,k71,eq_true c72,k74,eq_true c75,k77,eq_true c78,k80,c81,CL,LTN]
          exact hK
        rw [if_neg c78] at h
        injection h with h; subst h
        simp -implicitDefEqProofs only [U_handsellaw06_WhenNone,TT,Ic.t,Ic.ci,Nat.reduceEqDiff,reduceIte,Nat.reduceAdd,Nat.reduceMul,Nat.reduceLT,Nat.reduceLeDiff,Nat.reduceSub,reduceCtorEq,Int.reduceEq,Int.reduceNe,Int.reduceToNat,Int.reduceLT,Int.reduceLE,Int.reduceNeg,hl,k2,k4,k6,eq_true c7,k9,c10,c25,c40,c55,k71,eq_true c72,k74,eq_true c75,k77,c78,CL,LTN]
        exact hK
      rw [if_neg c75] at h
      injection h with h; subst h
      simp -implicitDefEqProofs only [U_handsellaw06_WhenNone,TT,Ic.t,Ic.ci,Nat.reduceEqDiff,reduceIte,Nat.reduceAdd,Nat.reduceMul,Nat.reduceLT,Nat.reduceLeDiff,Nat.reduceSub,reduceCtorEq,Int.reduceEq,Int.reduceNe,Int.reduceToNat,Int.reduceLT,Int.reduceLE,Int.reduceNeg,hl,k2,k4,k6,eq_true c7,k9,c10,c25,c40,c55,k71,eq_true c72,k74,c75,CL,LTN]
      exact hK
    rw [if_neg c72] at h
    injection h with h; subst h
    simp -implicitDefEqProofs only [U_handsellaw06_WhenNone,TT,Ic.t,Ic.ci,Nat.reduceEqDiff,reduceIte,Nat.reduceAdd,Nat.reduceMul,Nat.reduceLT,Nat.reduceLeDiff,Nat.reduceSub,reduceCtorEq,Int.reduceEq,Int.reduceNe,Int.reduceToNat,Int.reduceLT,Int.reduceLE,Int.reduceNeg,hl,k2,k4,k6,eq_true c7,k9,c10,c25,c40,c55,k71,c72,CL,LTN]
    exact hK
  rw [if_neg c7] at h
  injection h with h; subst h
  simp -implicitDefEqProofs only [U_handsellaw06_WhenNone,TT,Ic.t,Ic.ci,Nat.reduceEqDiff,reduceIte,Nat.reduceAdd,Nat.reduceMul,Nat.reduceLT,Nat.reduceLeDiff,Nat.reduceSub,reduceCtorEq,Int.reduceEq,Int.reduceNe,Int.reduceToNat,Int.reduceLT,Int.reduceLE,Int.reduceNeg,hl,k2,k4,k6,c7,CL,LTN]
  exact hK
theorem handsellaw06_WhenNone_f_k (p1 : Int) (p2 : Int) (p3 : Int) (r : Bool) (h : handsellaw06_WhenNone_f p1 p2 p3 = some r) (lk : Bool) (d : Option Nat) (K : TCont) (fr : TF) (tk : TK) (τ : TH) (hl : τ.lock ≤ τ.next) : callK G lk F_handsellaw06_WhenNone [.int .i64 p1,.int .i64 p2,.int .i64 p3] d K fr tk τ = K (tput fr d (.bool r)) tk τ :=
  callK_rdo (handsellaw06_WhenNone_f_s p1 p2 p3 r h τ  hl) (handsellaw06_WhenNone_f_s p1 p2 p3 r h (τ.locked τ.next)  (Nat.le_refl _) ) (by simp -implicitDefEqProofs only [TT,Ic.t,Ic.ci,Nat.reduceEqDiff,reduceIte,Nat.reduceAdd,Nat.reduceMul,Nat.reduceLT,Nat.reduceLeDiff,Nat.reduceSub,reduceCtorEq,Int.reduceEq,Int.reduceNe,Int.reduceToNat,Int.reduceLT,Int.reduceLE,Int.reduceNeg,hl,CL,LTN])
end Go.Proofs.Ytdcfoaafkppojaa
