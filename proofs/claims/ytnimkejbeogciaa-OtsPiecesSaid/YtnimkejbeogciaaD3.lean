/- Functions of numbers and lists, printed by a program of ours out of the code for the tree level, with their proofs. -/
import Derived.Test.YtnimkejbeogciaaD2
set_option linter.unusedVariables false
set_option linter.unusedSimpArgs false
set_option linter.unusedSectionVars false
namespace Go.Proofs.Ytnimkejbeogciaa
open Go Go.RowKit Sh Ic
noncomputable def handsellaw00_Place_f (p1 : Int) (p2 : Int) : Option Int :=
  if ¬ p2 = 0 then
    if (Int.tmod p1 p2) < (0 : Int) then
      some (IntKind.i64.wrap ((Int.tmod p1 p2) + p2))
    else
    some (Int.tmod p1 p2)
  else
    none
theorem handsellaw00_Place_f_s (p1 : Int) (p2 : Int) (r : Int) (h : handsellaw00_Place_f p1 p2 = some r) (τ : TH) (hl : τ.lock ≤ τ.next) : Ru G F_handsellaw00_Place [.int .i64 p1,.int .i64 p2] τ (.int .i64 r) τ := by
  refine Ru_of fun K hK => ?_
  rw [tC_code g_handsellaw00_Place (Nat.le_of_ble_eq_true rfl)]
  unfold handsellaw00_Place_f at h
  obtain ⟨c1,h⟩ := ifS h
  by_cases c2 : (Int.tmod p1 p2) < (0 : Int)
  · rw [if_pos c2] at h
    injection h with h; subst h
    simp -implicitDefEqProofs only [U_handsellaw00_Place,TT,Ic.t,Ic.ci,Nat.reduceEqDiff,reduceIte,Nat.reduceAdd,Nat.reduceMul,Nat.reduceLT,Nat.reduceLeDiff,Nat.reduceSub,reduceCtorEq,Int.reduceEq,Int.reduceNe,Int.reduceToNat,Int.reduceLT,Int.reduceLE,Int.reduceNeg,hl,c1,c2,CL,LTN]
    exact hK
  rw [if_neg c2] at h
  injection h with h; subst h
  simp -implicitDefEqProofs only [U_handsellaw00_Place,TT,Ic.t,Ic.ci,Nat.reduceEqDiff,reduceIte,Nat.reduceAdd,Nat.reduceMul,Nat.reduceLT,Nat.reduceLeDiff,Nat.reduceSub,reduceCtorEq,Int.reduceEq,Int.reduceNe,Int.reduceToNat,Int.reduceLT,Int.reduceLE,Int.reduceNeg,hl,c1,c2,CL,LTN]
  exact hK
theorem handsellaw00_Place_f_k (p1 : Int) (p2 : Int) (r : Int) (h : handsellaw00_Place_f p1 p2 = some r) (lk : Bool) (d : Option Nat) (K : TCont) (fr : TF) (tk : TK) (τ : TH) (hl : τ.lock ≤ τ.next) : callK G lk F_handsellaw00_Place [.int .i64 p1,.int .i64 p2] d K fr tk τ = K (tput fr d (.int .i64 r)) tk τ :=
  callK_rdo (handsellaw00_Place_f_s p1 p2 r h τ  hl) (handsellaw00_Place_f_s p1 p2 r h (τ.locked τ.next)  (Nat.le_refl _) ) (by simp -implicitDefEqProofs only [TT,Ic.t,Ic.ci,Nat.reduceEqDiff,reduceIte,Nat.reduceAdd,Nat.reduceMul,Nat.reduceLT,Nat.reduceLeDiff,Nat.reduceSub,reduceCtorEq,Int.reduceEq,Int.reduceNe,Int.reduceToNat,Int.reduceLT,Int.reduceLE,Int.reduceNeg,hl,CL,LTN])
noncomputable def handsellaw02_OtsNone_f (p1 : ByteArray) (p2 : Int) (p3 : Int) : Option Bool :=
  if (200 : Int) < ((p1.size : Nat) : Int) then
    handsellaw02_awake_f >>= fun y2 =>
    some y2
  else
  handsellaw00_Place_f p2 (1000 : Int) >>= fun y4 =>
  if (Int.tmod p3 (2 : Int)) = (0 : Int) then
    ots_Public_f p1 (IntKind.i64.wrap ((255 : Int) - (IntKind.i64.wrap ((256 : Int) + y4)))) >>= fun y7 =>
    if y7 = (⟨#[]⟩ : ByteArray) then
      ots_Sign_f p1 (IntKind.i64.wrap ((255 : Int) - (IntKind.i64.wrap ((256 : Int) + y4)))) (⟨#[120]⟩ : ByteArray) >>= fun y10 =>
      if y10 = (⟨#[]⟩ : ByteArray) then
        ots_Value_f p1 (IntKind.i64.wrap ((255 : Int) - (IntKind.i64.wrap ((256 : Int) + y4)))) (0 : Int) (0 : Int) >>= fun y13 =>
        if y13 = (⟨#[]⟩ : ByteArray) then
          ots_Value_f p1 (0 : Int) (IntKind.i64.wrap ((255 : Int) - (IntKind.i64.wrap ((256 : Int) + y4)))) (0 : Int) >>= fun y16 =>
          if y16 = (⟨#[]⟩ : ByteArray) then
            ots_Value_f p1 (0 : Int) (0 : Int) (IntKind.i64.wrap ((255 : Int) - (IntKind.i64.wrap ((256 : Int) + y4)))) >>= fun y19 =>
            if y19 = (⟨#[]⟩ : ByteArray) then
              ots_Value_f p1 (255 : Int) (15 : Int) (1 : Int) >>= fun y22 =>
              if ((y22.size : Nat) : Int) = (16 : Int) then
                ots_Value_f p1 (0 : Int) (16 : Int) (0 : Int) >>= fun y25 =>
                if y25 = (⟨#[]⟩ : ByteArray) then
                  handsellaw02_awake_f >>= fun y28 =>
                  some y28
                else
                some false
              else
              some false
            else
            some false
          else
          some false
        else
        some false
      else
      some false
    else
    some false
  else
  ots_Public_f p1 (IntKind.i64.wrap ((256 : Int) + y4)) >>= fun y30 =>
  if y30 = (⟨#[]⟩ : ByteArray) then
    ots_Sign_f p1 (IntKind.i64.wrap ((256 : Int) + y4)) (⟨#[120]⟩ : ByteArray) >>= fun y33 =>
    if y33 = (⟨#[]⟩ : ByteArray) then
      ots_Value_f p1 (IntKind.i64.wrap ((256 : Int) + y4)) (0 : Int) (0 : Int) >>= fun y36 =>
      if y36 = (⟨#[]⟩ : ByteArray) then
        ots_Value_f p1 (0 : Int) (IntKind.i64.wrap ((256 : Int) + y4)) (0 : Int) >>= fun y39 =>
        if y39 = (⟨#[]⟩ : ByteArray) then
          ots_Value_f p1 (0 : Int) (0 : Int) (IntKind.i64.wrap ((256 : Int) + y4)) >>= fun y42 =>
          if y42 = (⟨#[]⟩ : ByteArray) then
            ots_Value_f p1 (255 : Int) (15 : Int) (1 : Int) >>= fun y45 =>
            if ((y45.size : Nat) : Int) = (16 : Int) then
              ots_Value_f p1 (0 : Int) (16 : Int) (0 : Int) >>= fun y48 =>
              if y48 = (⟨#[]⟩ : ByteArray) then
                handsellaw02_awake_f >>= fun y51 =>
                some y51
              else
              some false
            else
            some false
          else
          some false
        else
        some false
      else
      some false
    else
    some false
  else
  some false
theorem handsellaw02_OtsNone_f_s (p1 : ByteArray) (p2 : Int) (p3 : Int) (r : Bool) (h : handsellaw02_OtsNone_f p1 p2 p3 = some r) (τ : TH) (hl : τ.lock ≤ τ.next) : Ru G F_handsellaw02_OtsNone [.str p1,.int .i64 p2,.int .i64 p3] τ (.bool r) τ := by
  refine Ru_of fun K hK => ?_
  rw [tC_code g_handsellaw02_OtsNone (Nat.le_of_ble_eq_true rfl)]
  unfold handsellaw02_OtsNone_f at h
  by_cases c1 : (200 : Int) < ((p1.size : Nat) : Int)
  · rw [if_pos c1] at h
    obtain ⟨y2,hy2,h⟩ := ob h
    have k3 := handsellaw02_awake_f_k  _ hy2
    try simp only [CL,MC,Int.reduceToNat] at k3
    injection h with h; subst h
    simp -implicitDefEqProofs only [U_handsellaw02_OtsNone,TT,Ic.t,Ic.ci,Nat.reduceEqDiff,reduceIte,Nat.reduceAdd,Nat.reduceMul,Nat.reduceLT,Nat.reduceLeDiff,Nat.reduceSub,reduceCtorEq,Int.reduceEq,Int.reduceNe,Int.reduceToNat,Int.reduceLT,Int.reduceLE,Int.reduceNeg,hl,c1,k3,CL,LTN]
    exact hK
  rw [if_neg c1] at h
  obtain ⟨y4,hy4,h⟩ := ob h
  have k5 := handsellaw00_Place_f_k p2 (1000 : Int) _ hy4
  try simp only [CL,MC,Int.reduceToNat] at k5
  by_cases c6 : (Int.tmod p3 (2 : Int)) = (0 : Int)
  · rw [if_pos c6] at h
    obtain ⟨y7,hy7,h⟩ := ob h
    have k8 := ots_Public_f_k p1 (IntKind.i64.wrap ((255 : Int) - (IntKind.i64.wrap ((256 : Int) + y4)))) _ hy7
    try simp only [CL,MC,Int.reduceToNat] at k8
    by_cases c9 : y7 = (⟨#[]⟩ : ByteArray)
    · rw [if_pos c9] at h
      obtain ⟨y10,hy10,h⟩ := ob h
      have k11 := ots_Sign_f_k p1 (IntKind.i64.wrap ((255 : Int) - (IntKind.i64.wrap ((256 : Int) + y4)))) (⟨#[120]⟩ : ByteArray) _ hy10
      try simp only [CL,MC,Int.reduceToNat] at k11
      by_cases c12 : y10 = (⟨#[]⟩ : ByteArray)
      · rw [if_pos c12] at h
        obtain ⟨y13,hy13,h⟩ := ob h
        have k14 := ots_Value_f_k p1 (IntKind.i64.wrap ((255 : Int) - (IntKind.i64.wrap ((256 : Int) + y4)))) (0 : Int) (0 : Int) _ hy13
        try simp only [CL,MC,Int.reduceToNat] at k14
        by_cases c15 : y13 = (⟨#[]⟩ : ByteArray)
        · rw [if_pos c15] at h
          obtain ⟨y16,hy16,h⟩ := ob h
          have k17 := ots_Value_f_k p1 (0 : Int) (IntKind.i64.wrap ((255 : Int) - (IntKind.i64.wrap ((256 : Int) + y4)))) (0 : Int) _ hy16
          try simp only [CL,MC,Int.reduceToNat] at k17
          by_cases c18 : y16 = (⟨#[]⟩ : ByteArray)
          · rw [if_pos c18] at h
            obtain ⟨y19,hy19,h⟩ := ob h
            have k20 := ots_Value_f_k p1 (0 : Int) (0 : Int) (IntKind.i64.wrap ((255 : Int) - (IntKind.i64.wrap ((256 : Int) + y4)))) _ hy19
            try simp only [CL,MC,Int.reduceToNat] at k20
            by_cases c21 : y19 = (⟨#[]⟩ : ByteArray)
            · rw [if_pos c21] at h
              obtain ⟨y22,hy22,h⟩ := ob h
              have k23 := ots_Value_f_k p1 (255 : Int) (15 : Int) (1 : Int) _ hy22
              try simp only [CL,MC,Int.reduceToNat] at k23
              by_cases c24 : ((y22.size : Nat) : Int) = (16 : Int)
              · rw [if_pos c24] at h
                obtain ⟨y25,hy25,h⟩ := ob h
                have k26 := ots_Value_f_k p1 (0 : Int) (16 : Int) (0 : Int) _ hy25
                try simp only [CL,MC,Int.reduceToNat] at k26
                by_cases c27 : y25 = (⟨#[]⟩ : ByteArray)
                · rw [if_pos c27] at h
                  obtain ⟨y28,hy28,h⟩ := ob h
                  have k29 := handsellaw02_awake_f_k  _ hy28
                  try simp only [CL,MC,Int.reduceToNat] at k29
                  injection h with h; subst h
                  simp -implicitDefEqProofs only [U_handsellaw02_OtsNone,TT,Ic.t,Ic.ci,Nat.reduceEqDiff,reduceIte,Nat.reduceAdd,Nat.reduceMul,Nat.reduceLT,Nat.reduceLeDiff,Nat.reduceSub,reduceCtorEq,Int.reduceEq,Int.reduceNe,Int.reduceToNat,Int.reduceLT,Int.reduceLE,Int.reduceNeg,hl,c1,k5,eq_true c6,k8,eq_true c9,k11,eq_true c12,k14,eq_true c15,k17,eq_true c18,k20,eq_true c21,k23,eq_true c24,k26,eq_true c27,k29,CL,LTN]
                  exact hK
                rw [if_neg c27] at h
                injection h with h; subst h
                simp -implicitDefEqProofs only [U_handsellaw02_OtsNone,TT,Ic.t,Ic.ci,Nat.reduceEqDiff,reduceIte,Nat.reduceAdd,Nat.reduceMul,Nat.reduceLT,Nat.reduceLeDiff,Nat.reduceSub,reduceCtorEq,Int.reduceEq,Int.reduceNe,Int.reduceToNat,Int.reduceLT,Int.reduceLE,Int.reduceNeg,hl,c1,k5,eq_true c6,k8,eq_true c9,k11,eq_true c12,k14,eq_true c15,k17,eq_true c18,k20,eq_true c21,k23,eq_true c24,k26,c27,CL,LTN]
                exact hK
              rw [if_neg c24] at h
              injection h with h; subst h
              simp -implicitDefEqProofs only [U_handsellaw02_OtsNone,TT,Ic.t,Ic.ci,Nat.reduceEqDiff,reduceIte,Nat.reduceAdd,Nat.reduceMul,Nat.reduceLT,Nat.reduceLeDiff,Nat.reduceSub,reduceCtorEq,Int.reduceEq,Int.reduceNe,Int.reduceToNat,Int.reduceLT,Int.reduceLE,Int.reduceNeg,hl,c1,k5,eq_true c6,k8,eq_true c9,k11,eq_true c12,k14,eq_true c15,k17,eq_true c18,k20,eq_true c21,k23,c24,CL,LTN]
              exact hK
            rw [if_neg c21] at h
            injection h with h; subst h
            simp -implicitDefEqProofs only [U_handsellaw02_OtsNone,TT,Ic.t,Ic.ci,Nat.reduceEqDiff,reduceIte,Nat.reduceAdd,Nat.reduceMul,Nat.reduceLT,Nat.reduceLeDiff,Nat.reduceSub,reduceCtorEq,Int.reduceEq,Int.reduceNe,Int.reduceToNat,Int.reduceLT,Int.reduceLE,Int.reduceNeg,hl,c1,k5,eq_true c6,k8,eq_true c9,k11,eq_true c12,k14,eq_true c15,k17,eq_true c18,k20,c21,CL,LTN]
            exact hK
          rw [if_neg c18] at h
          injection h with h; subst h
          simp -implicitDefEqProofs only [U_handsellaw02_OtsNone,TT,Ic.t,Ic.ci,Nat.reduceEqDiff,reduceIte,Nat.reduceAdd,Nat.reduceMul,Nat.reduceLT,Nat.reduceLeDiff,Nat.reduceSub,reduceCtorEq,Int.reduceEq,Int.reduceNe,Int.reduceToNat,Int.reduceLT,Int.reduceLE,Int.reduceNeg,hl,c1,k5,eq_true c6,k8,eq_true c9,k11,eq_true c12,k14,eq_true c15,k17,c18,CL,LTN]
          exact hK
        rw [if_neg c15] at h
        injection h with h; subst h
        simp -implicitDefEqProofs only [U_handsellaw02_OtsNone,TT,Ic.t,Ic.ci,Nat.reduceEqDiff,reduceIte,Nat.reduceAdd,Nat.reduceMul,Nat.reduceLT,Nat.reduceLeDiff,Nat.reduceSub,reduceCtorEq,Int.reduceEq,Int.reduceNe,Int.reduceToNat,Int.reduceLT,Int.reduceLE,Int.reduceNeg,hl,c1,k5,eq_true c6,k8,eq_true c9,k11,eq_true c12,k14,c15,CL,LTN]
        exact hK
      rw [if_neg c12] at h
      injection h with h; subst h
      simp -implicitDefEqProofs only [U_handsellaw02_OtsNone,TT,Ic.t,Ic.ci,Nat.reduceEqDiff,reduceIte,Nat.reduceAdd,Nat.reduceMul,Nat.reduceLT,Nat.reduceLeDiff,Nat.reduceSub,reduceCtorEq,Int.reduceEq,Int.reduceNe,Int.reduceToNat,Int.reduceLT,Int.reduceLE,Int.reduceNeg,hl,c1,k5,eq_true c6,k8,eq_true c9,k11,c12,CL,LTN]
      exact hK
    rw [if_neg c9] at h
    injection h with h; subst h
    simp -implicitDefEqProofs only [U_handsellaw02_OtsNone,TT,Ic.t,Ic.ci,Nat.reduceEqDiff,reduceIte,Nat.reduceAdd,Nat.reduceMul,Nat.reduceLT,Nat.reduceLeDiff,Nat.reduceSub,reduceCtorEq,Int.reduceEq,Int.reduceNe,Int.reduceToNat,Int.reduceLT,Int.reduceLE,Int.reduceNeg,hl,c1,k5,eq_true c6,k8,c9,CL,LTN]
    exact hK
  rw [if_neg c6] at h
  obtain ⟨y30,hy30,h⟩ := ob h
  have k31 := ots_Public_f_k p1 (IntKind.i64.wrap ((256 : Int) + y4)) _ hy30
  try simp only [CL,MC,Int.reduceToNat] at k31
  by_cases c32 : y30 = (⟨#[]⟩ : ByteArray)
  · rw [if_pos c32] at h
    obtain ⟨y33,hy33,h⟩ := ob h
    have k34 := ots_Sign_f_k p1 (IntKind.i64.wrap ((256 : Int) + y4)) (⟨#[120]⟩ : ByteArray) _ hy33
    try simp only [CL,MC,Int.reduceToNat] at k34
    by_cases c35 : y33 = (⟨#[]⟩ : ByteArray)
    · rw [if_pos c35] at h
      obtain ⟨y36,hy36,h⟩ := ob h
      have k37 := ots_Value_f_k p1 (IntKind.i64.wrap ((256 : Int) + y4)) (0 : Int) (0 : Int) _ hy36
      try simp only [CL,MC,Int.reduceToNat] at k37
      by_cases c38 : y36 = (⟨#[]⟩ : ByteArray)
      · rw [if_pos c38] at h
        obtain ⟨y39,hy39,h⟩ := ob h
        have k40 := ots_Value_f_k p1 (0 : Int) (IntKind.i64.wrap ((256 : Int) + y4)) (0 : Int) _ hy39
        try simp only [CL,MC,Int.reduceToNat] at k40
        by_cases c41 : y39 = (⟨#[]⟩ : ByteArray)
        · rw [if_pos c41] at h
          obtain ⟨y42,hy42,h⟩ := ob h
          have k43 := ots_Value_f_k p1 (0 : Int) (0 : Int) (IntKind.i64.wrap ((256 : Int) + y4)) _ hy42
          try simp only [CL,MC,Int.reduceToNat] at k43
          by_cases c44 : y42 = (⟨#[]⟩ : ByteArray)
          · rw [if_pos c44] at h
            obtain ⟨y45,hy45,h⟩ := ob h
            have k46 := ots_Value_f_k p1 (255 : Int) (15 : Int) (1 : Int) _ hy45
            try simp only [CL,MC,Int.reduceToNat] at k46
            by_cases c47 : ((y45.size : Nat) : Int) = (16 : Int)
            · rw [if_pos c47] at h
              obtain ⟨y48,hy48,h⟩ := ob h
              have k49 := ots_Value_f_k p1 (0 : Int) (16 : Int) (0 : Int) _ hy48
              try simp only [CL,MC,Int.reduceToNat] at k49
              by_cases c50 : y48 = (⟨#[]⟩ : ByteArray)
              · rw [if_pos c50] at h
                obtain ⟨y51,hy51,h⟩ := ob h
                have k52 := handsellaw02_awake_f_k  _ hy51
                try simp only [CL,MC,Int.reduceToNat] at k52
                injection h with h; subst h
                simp -implicitDefEqProofs only [U_handsellaw02_OtsNone,TT,Ic.t,Ic.ci,Nat.reduceEqDiff,reduceIte,Nat.reduceAdd,Nat.reduceMul,Nat.reduceLT,Nat.reduceLeDiff,Nat.reduceSub,reduceCtorEq,Int.reduceEq,Int.reduceNe,Int.reduceToNat,Int.reduceLT,Int.reduceLE,Int.reduceNeg,hl,c1,k5,c6,k31,eq_true c32,k34,eq_true c35,k37,eq_true c38,k40,eq_true c41,k43,eq_true c44,k46,eq_true c47,k49,eq_true c50,k52,CL,LTN]
                exact hK
              rw [if_neg c50] at h
              injection h with h; subst h
              simp -implicitDefEqProofs only [U_handsellaw02_OtsNone,TT,Ic.t,Ic.ci,Nat.reduceEqDiff,reduceIte,Nat.reduceAdd,Nat.reduceMul,Nat.reduceLT,Nat.reduceLeDiff,Nat.reduceSub,reduceCtorEq,Int.reduceEq,Int.reduceNe,Int.reduceToNat,Int.reduceLT,Int.reduceLE,Int.reduceNeg,hl,c1,k5,c6,k31,eq_true c32,k34,eq_true c35,k37,eq_true c38,k40,eq_true c41,k43,eq_true c44,k46,eq_true c47,k49,c50,CL,LTN]
              exact hK
            rw [if_neg c47] at h
            injection h with h; subst h
            simp -implicitDefEqProofs only [U_handsellaw02_OtsNone,TT,Ic.t,Ic.ci,Nat.reduceEqDiff,reduceIte,Nat.reduceAdd,Nat.reduceMul,Nat.reduceLT,Nat.reduceLeDiff,Nat.reduceSub,reduceCtorEq,Int.reduceEq,Int.reduceNe,Int.reduceToNat,Int.reduceLT,Int.reduceLE,Int.reduceNeg,hl,c1,k5,c6,k31,eq_true c32,k34,eq_true c35,k37,eq_true c38,k40,eq_true c41,k43,eq_true c44,k46,c47,CL,LTN]
            exact hK
          rw [if_neg c44] at h
          injection h with h; subst h
          simp -implicitDefEqProofs only [U_handsellaw02_OtsNone,TT,Ic.t,Ic.ci,Nat.reduceEqDiff,reduceIte,Nat.reduceAdd,Nat.reduceMul,Nat.reduceLT,Nat.reduceLeDiff,Nat.reduceSub,reduceCtorEq,Int.reduceEq,Int.reduceNe,Int.reduceToNat,Int.reduceLT,Int.reduceLE,Int.reduceNeg,hl,c1,k5,c6,k31,eq_true c32,k34,eq_true c35,k37,eq_true c38,k40,eq_true c41,k43,c44,CL,LTN]
          exact hK
        rw [if_neg c41] at h
        injection h with h; subst h
        simp -implicitDefEqProofs only [U_handsellaw02_OtsNone,TT,Ic.t,Ic.ci,Nat.reduceEqDiff,reduceIte,Nat.reduceAdd,Nat.reduceMul,Nat.reduceLT,Nat.reduceLeDiff,Nat.reduceSub,reduceCtorEq,Int.reduceEq,Int.reduceNe,Int.reduceToNat,Int.reduceLT,Int.reduceLE,Int.reduceNeg,hl,c1,k5,c6,k31,eq_true c32,k34,eq_true c35,k37,eq_true c38,k40,c41,CL,LTN]
        exact hK
      rw [if_neg c38] at h
      injection h with h; subst h
      simp -implicitDefEqProofs only [U_handsellaw02_OtsNone,TT,Ic.t,Ic.ci,Nat.reduceEqDiff,reduceIte,Nat.reduceAdd,Nat.reduceMul,Nat.reduceLT,Nat.reduceLeDiff,Nat.reduceSub,reduceCtorEq,Int.reduceEq,Int.reduceNe,Int.reduceToNat,Int.reduceLT,Int.reduceLE,Int.reduceNeg,hl,c1,k5,c6,k31,eq_true c32,k34,eq_true c35,k37,c38,CL,LTN]
      exact hK
    rw [if_neg c35] at h
    injection h with h; subst h
    simp -implicitDefEqProofs only [U_handsellaw02_OtsNone,TT,Ic.t,Ic.ci,Nat.reduceEqDiff,reduceIte,Nat.reduceAdd,Nat.reduceMul,Nat.reduceLT,Nat.reduceLeDiff,Nat.reduceSub,reduceCtorEq,Int.reduceEq,Int.reduceNe,Int.reduceToNat,Int.reduceLT,Int.reduceLE,Int.reduceNeg,hl,c1,k5,c6,k31,eq_true c32,k34,c35,CL,LTN]
    exact hK
  rw [if_neg c32] at h
  injection h with h; subst h
  simp -implicitDefEqProofs only [U_handsellaw02_OtsNone,TT,Ic.t,Ic.ci,Nat.reduceEqDiff,reduceIte,Nat.reduceAdd,Nat.reduceMul,Nat.reduceLT,Nat.reduceLeDiff,Nat.reduceSub,reduceCtorEq,Int.reduceEq,Int.reduceNe,Int.reduceToNat,Int.reduceLT,Int.reduceLE,Int.reduceNeg,hl,c1,k5,c6,k31,c32,CL,LTN]
  exact hK
theorem handsellaw02_OtsNone_f_k (p1 : ByteArray) (p2 : Int) (p3 : Int) (r : Bool) (h : handsellaw02_OtsNone_f p1 p2 p3 = some r) (lk : Bool) (d : Option Nat) (K : TCont) (fr : TF) (tk : TK) (τ : TH) (hl : τ.lock ≤ τ.next) : callK G lk F_handsellaw02_OtsNone [.str p1,.int .i64 p2,.int .i64 p3] d K fr tk τ = K (tput fr d (.bool r)) tk τ :=
  callK_rdo (handsellaw02_OtsNone_f_s p1 p2 p3 r h τ  hl) (handsellaw02_OtsNone_f_s p1 p2 p3 r h (τ.locked τ.next)  (Nat.le_refl _) ) (by simp -implicitDefEqProofs only [TT,Ic.t,Ic.ci,Nat.reduceEqDiff,reduceIte,Nat.reduceAdd,Nat.reduceMul,Nat.reduceLT,Nat.reduceLeDiff,Nat.reduceSub,reduceCtorEq,Int.reduceEq,Int.reduceNe,Int.reduceToNat,Int.reduceLT,Int.reduceLE,Int.reduceNeg,hl,CL,LTN])
noncomputable def handsellaw02_OtsPieces_f_l1_step (v0 : ByteArray) (v1 : Int) (v2 : ByteArray) (v3 : ByteArray) (v4 : ByteArray) (v5 : Int) : Option (LS (ByteArray × Int) (LX (ByteArray) (Bool))) :=
  if v5 < (16 : Int) then
    ixB v3 (IntKind.i64.wrap (Int.tdiv v5 (8 : Int))) >>= fun b2 =>
    if ¬ (IntKind.u64.wrap (IntKind.i64.wrap ((7 : Int) - (Int.tmod v5 (8 : Int))))) < 0 then
      some (IntKind.i64.wrap ((BitVec.ofInt IntKind.i64.bits (IntKind.i64.wrap (Int.fdiv b2 (2 ^ (Nat.min (IntKind.u64.wrap (IntKind.i64.wrap ((7 : Int) - (Int.tmod v5 (8 : Int))))).toNat IntKind.u8.bits)))) &&& BitVec.ofInt IntKind.i64.bits (1 : Int)).toNat : Int)) >>= fun x5 =>
      ots_Value_f v0 v1 v5 (0 : Int) >>= fun y7 =>
      ots_Value_f v0 v1 v5 (1 : Int) >>= fun y9 =>
      sha_Short_f y7 >>= fun y11 =>
      if ¬ (9223372036854775807 < ((v4.size + y11.size : Nat) : Int)) then
        sha_Short_f y9 >>= fun y14 =>
        if ¬ (9223372036854775807 < (((v4 ++ y11).size + y14.size : Nat) : Int)) then
          if x5 = (1 : Int) then
            if (0 ≤ (IntKind.i64.wrap ((IntKind.i64.wrap ((32 : Int) * v5)) + (16 : Int))) ∧ (IntKind.i64.wrap ((IntKind.i64.wrap ((32 : Int) * v5)) + (16 : Int))) ≤ (v2.size : Int)) ∧ 0 ≤ (IntKind.i64.wrap ((32 : Int) * v5)) ∧ (IntKind.i64.wrap ((32 : Int) * v5)) ≤ (IntKind.i64.wrap ((IntKind.i64.wrap ((32 : Int) * v5)) + (16 : Int))) then
              if (v2.extract ((IntKind.i64.wrap ((32 : Int) * v5)).toNat) ((IntKind.i64.wrap ((IntKind.i64.wrap ((32 : Int) * v5)) + (16 : Int))).toNat)) = y9 then
                if (0 ≤ (IntKind.i64.wrap ((IntKind.i64.wrap ((32 : Int) * v5)) + (32 : Int))) ∧ (IntKind.i64.wrap ((IntKind.i64.wrap ((32 : Int) * v5)) + (32 : Int))) ≤ (v2.size : Int)) ∧ 0 ≤ (IntKind.i64.wrap ((IntKind.i64.wrap ((32 : Int) * v5)) + (16 : Int))) ∧ (IntKind.i64.wrap ((IntKind.i64.wrap ((32 : Int) * v5)) + (16 : Int))) ≤ (IntKind.i64.wrap ((IntKind.i64.wrap ((32 : Int) * v5)) + (32 : Int))) then
                  if (v2.extract ((IntKind.i64.wrap ((IntKind.i64.wrap ((32 : Int) * v5)) + (16 : Int))).toNat) ((IntKind.i64.wrap ((IntKind.i64.wrap ((32 : Int) * v5)) + (32 : Int))).toNat)) = y11 then
                    if ¬ (9223372036854775807 < ((v0.size + (strL [(IntKind.u8.wrap v1),(IntKind.u8.wrap v5),(IntKind.u8.wrap x5)]).size : Nat) : Int)) then
                      sha_Short_f (v0 ++ (strL [(IntKind.u8.wrap v1),(IntKind.u8.wrap v5),(IntKind.u8.wrap x5)])) >>= fun y23 =>
                      if y9 = y23 then
                        some (.nx (((v4 ++ y11) ++ y14),(IntKind.i64.wrap (v5 + (1 : Int)))))
                      else
                      some (.dn (.rt false))
                    else
                      none
                  else
                  some (.dn (.rt false))
                else
                  none
              else
              some (.dn (.rt false))
            else
              none
          else
          if (0 ≤ (IntKind.i64.wrap ((IntKind.i64.wrap ((32 : Int) * v5)) + (16 : Int))) ∧ (IntKind.i64.wrap ((IntKind.i64.wrap ((32 : Int) * v5)) + (16 : Int))) ≤ (v2.size : Int)) ∧ 0 ≤ (IntKind.i64.wrap ((32 : Int) * v5)) ∧ (IntKind.i64.wrap ((32 : Int) * v5)) ≤ (IntKind.i64.wrap ((IntKind.i64.wrap ((32 : Int) * v5)) + (16 : Int))) then
            if (v2.extract ((IntKind.i64.wrap ((32 : Int) * v5)).toNat) ((IntKind.i64.wrap ((IntKind.i64.wrap ((32 : Int) * v5)) + (16 : Int))).toNat)) = y7 then
              if (0 ≤ (IntKind.i64.wrap ((IntKind.i64.wrap ((32 : Int) * v5)) + (32 : Int))) ∧ (IntKind.i64.wrap ((IntKind.i64.wrap ((32 : Int) * v5)) + (32 : Int))) ≤ (v2.size : Int)) ∧ 0 ≤ (IntKind.i64.wrap ((IntKind.i64.wrap ((32 : Int) * v5)) + (16 : Int))) ∧ (IntKind.i64.wrap ((IntKind.i64.wrap ((32 : Int) * v5)) + (16 : Int))) ≤ (IntKind.i64.wrap ((IntKind.i64.wrap ((32 : Int) * v5)) + (32 : Int))) then
                if (v2.extract ((IntKind.i64.wrap ((IntKind.i64.wrap ((32 : Int) * v5)) + (16 : Int))).toNat) ((IntKind.i64.wrap ((IntKind.i64.wrap ((32 : Int) * v5)) + (32 : Int))).toNat)) = y14 then
                  if ¬ (9223372036854775807 < ((v0.size + (strL [(IntKind.u8.wrap v1),(IntKind.u8.wrap v5),(IntKind.u8.wrap x5)]).size : Nat) : Int)) then
                    sha_Short_f (v0 ++ (strL [(IntKind.u8.wrap v1),(IntKind.u8.wrap v5),(IntKind.u8.wrap x5)])) >>= fun y31 =>
                    if y7 = y31 then
                      some (.nx (((v4 ++ y11) ++ y14),(IntKind.i64.wrap (v5 + (1 : Int)))))
                    else
                    some (.dn (.rt false))
                  else
                    none
                else
                some (.dn (.rt false))
              else
                none
            else
            some (.dn (.rt false))
          else
            none
        else
          none
      else
        none
    else
      none
  else
  some (.dn (.ex v4))
noncomputable def handsellaw02_OtsPieces_f_l1 (v0 : ByteArray) (v1 : Int) (v2 : ByteArray) (v3 : ByteArray) (v4 : ByteArray) (v5 : Int) : Option (LX (ByteArray) (Bool)) := iterO (fun st => handsellaw02_OtsPieces_f_l1_step v0 v1 v2 v3 st.1 st.2) (v4,v5)
theorem handsellaw02_OtsPieces_f_l1_eq (v0 : ByteArray) (v1 : Int) (v2 : ByteArray) (v3 : ByteArray) (v4 : ByteArray) (v5 : Int) : handsellaw02_OtsPieces_f_l1 v0 v1 v2 v3 v4 v5 = handsellaw02_OtsPieces_f_l1_step v0 v1 v2 v3 v4 v5 >>= LS.go (fun st => handsellaw02_OtsPieces_f_l1 v0 v1 v2 v3 st.1 st.2) := iterO_eq (fun st => handsellaw02_OtsPieces_f_l1_step v0 v1 v2 v3 st.1 st.2) (v4,v5)
def handsellaw02_OtsPieces_f_l1_P (v0 : ByteArray) (v1 : Int) (v2 : ByteArray) (v3 : ByteArray) (v4 : ByteArray) (v5 : Int) (r : LX (ByteArray) (Bool)) : Prop := ∀ (τ : TH) (hl : τ.lock ≤ τ.next) (Q : TEx → TCont) (hQ0 : ∀ v : ByteArray,r = (.ex v) → ∀ (fr : TF) (tk2 : TK) (τ2 : TH),lkp fr 0 = .str v0 → lkp fr 7 = .int .i64 v1 → lkp fr 10 = .str v → tk2.take 0 = [] → τ2.cut τ.next = τ → Q (.exit 0) fr tk2 τ2) (hQ1 : ∀ v : Bool,r = (.rt v) → ∀ (tk2 : TK) (τ2 : TH),τ2.cut τ.next = τ → Q .ret [(6,.bool v)] tk2 τ2) ,tW G (.loop [0,7,8,9,10,11] l_handsellaw02_OtsPieces_1) Q [(0,.str v0),(7,.int .i64 v1),(8,.str v2),(9,.str v3),(10,.str v4),(11,.int .i64 v5)] [] τ
theorem handsellaw02_OtsPieces_f_l1_s (v0 : ByteArray) (v1 : Int) (v2 : ByteArray) (v3 : ByteArray) (v4 : ByteArray) (v5 : Int) (r : LX (ByteArray) (Bool)) (h : handsellaw02_OtsPieces_f_l1 v0 v1 v2 v3 v4 v5 = some r) : handsellaw02_OtsPieces_f_l1_P v0 v1 v2 v3 v4 v5 r := by
  refine iterO_ind (f := fun st => handsellaw02_OtsPieces_f_l1_step v0 v1 v2 v3 st.1 st.2) (P := fun st r => ∀ (v4 : ByteArray) (v5 : Int),(v4,v5) = st → handsellaw02_OtsPieces_f_l1_P v0 v1 v2 v3 v4 v5 r) ?_ h v4 v5 rfl
  clear h r v5 v4
  intro st o h r ih v4 v5 hst τ  hl Q hQ0 hQ1
  subst hst
  have h : handsellaw02_OtsPieces_f_l1_step v0 v1 v2 v3 v4 v5 = some o := h
  unfold handsellaw02_OtsPieces_f_l1_step at h
  refine tW_lp fun LQ hn hr he => ?_
  by_cases c1 : v5 < (16 : Int)
  · rw [if_pos c1] at h
    obtain ⟨b2,hb2,h⟩ := ob h
    have f3 := ixB_facts hb2
    try simp only [CL,MC,Int.reduceToNat] at f3
    obtain ⟨c4,h⟩ := ifS h
    obtain ⟨x5,hx5,h⟩ := ob h
    have f6 := Option.some.inj hx5
    obtain ⟨y7,hy7,h⟩ := ob h
    have k8 := ots_Value_f_k v0 v1 v5 (0 : Int) _ hy7
    try simp only [CL,MC,Int.reduceToNat] at k8
    obtain ⟨y9,hy9,h⟩ := ob h
    have k10 := ots_Value_f_k v0 v1 v5 (1 : Int) _ hy9
    try simp only [CL,MC,Int.reduceToNat] at k10
    obtain ⟨y11,hy11,h⟩ := ob h
    have k12 := sha_Short_f_k y7 _ hy11
    try simp only [CL,MC,Int.reduceToNat] at k12
    obtain ⟨c13,h⟩ := ifS h
    obtain ⟨y14,hy14,h⟩ := ob h
    have k15 := sha_Short_f_k y9 _ hy14
    try simp only [CL,MC,Int.reduceToNat] at k15
    obtain ⟨c16,h⟩ := ifS h
    by_cases c17 : x5 = (1 : Int)
    · rw [if_pos c17] at h
      obtain ⟨c18,h⟩ := ifS h
      by_cases c19 : (v2.extract ((IntKind.i64.wrap ((32 : Int) * v5)).toNat) ((IntKind.i64.wrap ((IntKind.i64.wrap ((32 : Int) * v5)) + (16 : Int))).toNat)) = y9
      · rw [if_pos c19] at h
        obtain ⟨c20,h⟩ := ifS h
        by_cases c21 : (v2.extract ((IntKind.i64.wrap ((IntKind.i64.wrap ((32 : Int) * v5)) + (16 : Int))).toNat) ((IntKind.i64.wrap ((IntKind.i64.wrap ((32 : Int) * v5)) + (32 : Int))).toNat)) = y11
        · rw [if_pos c21] at h
          obtain ⟨c22,h⟩ := ifS h
          obtain ⟨y23,hy23,h⟩ := ob h
          have k24 := sha_Short_f_k (v0 ++ (strL [(IntKind.u8.wrap v1),(IntKind.u8.wrap v5),(IntKind.u8.wrap x5)])) _ hy23
          try simp only [CL,MC,Int.reduceToNat] at k24
          by_cases c25 : y9 = y23
          · rw [if_pos c25] at h
            injection h with h; subst h
            have ih := ih ((v4 ++ y11) ++ y14) (IntKind.i64.wrap (v5 + (1 : Int))) rfl
            unfold handsellaw02_OtsPieces_f_l1_P at ih
            simp -implicitDefEqProofs only [l_handsellaw02_OtsPieces_1,U_handsellaw02_OtsPieces,TT,Ic.t,Ic.ci,Nat.reduceEqDiff,reduceIte,Nat.reduceAdd,Nat.reduceMul,Nat.reduceLT,Nat.reduceLeDiff,Nat.reduceSub,reduceCtorEq,Int.reduceEq,Int.reduceNe,Int.reduceToNat,Int.reduceLT,Int.reduceLE,Int.reduceNeg,hl,c1,f3.1,f3.2.1,f3.2.2,c4,f6,k8,k10,k12,c13,k15,c16,eq_true c17,c18,eq_true c19,c20,eq_true c21,c22,k24,eq_true c25,CL,LTN]
            rw [hn]
            simp -implicitDefEqProofs only [TT,Ic.t,Ic.ci,Nat.reduceEqDiff,reduceIte,Nat.reduceAdd,Nat.reduceMul,Nat.reduceLT,Nat.reduceLeDiff,Nat.reduceSub,reduceCtorEq,Int.reduceEq,Int.reduceNe,Int.reduceToNat,Int.reduceLT,Int.reduceLE,Int.reduceNeg,hl,c1,f3.1,f3.2.1,f3.2.2,c4,f6,k8,k10,k12,c13,k15,c16,eq_true c17,c18,eq_true c19,c20,eq_true c21,c22,k24,eq_true c25,CL,LTN]
            exact ih  τ    (by first | assumption | (simp only [next_pt,lock_pt]; assumption)) Q hQ0 hQ1
          rw [if_neg c25] at h
          injection h with h; subst h
          obtain rfl : _ = r := ih
          simp -implicitDefEqProofs only [l_handsellaw02_OtsPieces_1,U_handsellaw02_OtsPieces,TT,Ic.t,Ic.ci,Nat.reduceEqDiff,reduceIte,Nat.reduceAdd,Nat.reduceMul,Nat.reduceLT,Nat.reduceLeDiff,Nat.reduceSub,reduceCtorEq,Int.reduceEq,Int.reduceNe,Int.reduceToNat,Int.reduceLT,Int.reduceLE,Int.reduceNeg,hl,he,hr,c1,f3.1,f3.2.1,f3.2.2,c4,f6,k8,k10,k12,c13,k15,c16,eq_true c17,c18,eq_true c19,c20,eq_true c21,c22,k24,c25,CL,LTN]
          exact hQ1 false rfl  _ _  (by first | exact cut_ge (Nat.le_refl _) | (simp -implicitDefEqProofs only [TT,Ic.t,Ic.ci,Nat.reduceEqDiff,reduceIte,Nat.reduceAdd,Nat.reduceMul,Nat.reduceLT,Nat.reduceLeDiff,Nat.reduceSub,reduceCtorEq,Int.reduceEq,Int.reduceNe,Int.reduceToNat,Int.reduceLT,Int.reduceLE,Int.reduceNeg,hl,c1,f3.1,f3.2.1,f3.2.2,c4,f6,k8,k10,k12,c13,k15,c16,eq_true c17,c18,eq_true c19,c20,eq_true c21,c22,k24,c25,CL,LTN]))
        rw [if_neg c21] at h
        injection h with h; subst h
        obtain rfl : _ = r := ih
        simp -implicitDefEqProofs only [l_handsellaw02_OtsPieces_1,U_handsellaw02_OtsPieces,TT,Ic.t,Ic.ci,Nat.reduceEqDiff,reduceIte,Nat.reduceAdd,Nat.reduceMul,Nat.reduceLT,Nat.reduceLeDiff,Nat.reduceSub,reduceCtorEq,Int.reduceEq,Int.reduceNe,Int.reduceToNat,Int.reduceLT,Int.reduceLE,Int.reduceNeg,hl,he,hr,c1,f3.1,f3.2.1,f3.2.2,c4,f6,k8,k10,k12,c13,k15,c16,eq_true c17,c18,eq_true c19,c20,c21,CL,LTN]
        exact hQ1 false rfl  _ _  (by first | exact cut_ge (Nat.le_refl _) | (simp -implicitDefEqProofs only [TT,Ic.t,Ic.ci,Nat.reduceEqDiff,reduceIte,Nat.reduceAdd,Nat.reduceMul,Nat.reduceLT,Nat.reduceLeDiff,Nat.reduceSub,reduceCtorEq,Int.reduceEq,Int.reduceNe,Int.reduceToNat,Int.reduceLT,Int.reduceLE,Int.reduceNeg,hl,c1,f3.1,f3.2.1,f3.2.2,c4,f6,k8,k10,k12,c13,k15,c16,eq_true c17,c18,eq_true c19,c20,c21,CL,LTN]))
      rw [if_neg c19] at h
      injection h with h; subst h
      obtain rfl : _ = r := ih
      simp -implicitDefEqProofs only [l_handsellaw02_OtsPieces_1,U_handsellaw02_OtsPieces,TT,Ic.t,Ic.ci,Nat.reduceEqDiff,reduceIte,Nat.reduceAdd,Nat.reduceMul,Nat.reduceLT,Nat.reduceLeDiff,Nat.reduceSub,reduceCtorEq,Int.reduceEq,Int.reduceNe,Int.reduceToNat,Int.reduceLT,Int.reduceLE,Int.reduceNeg,hl,he,hr,c1,f3.1,f3.2.1,f3.2.2,c4,f6,k8,k10,k12,c13,k15,c16,eq_true c17,c18,c19,CL,LTN]
      exact hQ1 false rfl  _ _  (by first | exact cut_ge (Nat.le_refl _) | (simp -implicitDefEqProofs only [TT,Ic.t,Ic.ci,Nat.reduceEqDiff,reduceIte,Nat.reduceAdd,Nat.reduceMul,Nat.reduceLT,Nat.reduceLeDiff,Nat.reduceSub,reduceCtorEq,Int.reduceEq,Int.reduceNe,Int.reduceToNat,Int.reduceLT,Int.reduceLE,Int.reduceNeg,hl,c1,f3.1,f3.2.1,f3.2.2,c4,f6,k8,k10,k12,c13,k15,c16,eq_true c17,c18,c19,CL,LTN]))
    rw [if_neg c17] at h
    obtain ⟨c26,h⟩ := ifS h
    by_cases c27 : (v2.extract ((IntKind.i64.wrap ((32 : Int) * v5)).toNat) ((IntKind.i64.wrap ((IntKind.i64.wrap ((32 : Int) * v5)) + (16 : Int))).toNat)) = y7
    · rw [if_pos c27] at h
      obtain ⟨c28,h⟩ := ifS h
      by_cases c29 : (v2.extract ((IntKind.i64.wrap ((IntKind.i64.wrap ((32 : Int) * v5)) + (16 : Int))).toNat) ((IntKind.i64.wrap ((IntKind.i64.wrap ((32 : Int) * v5)) + (32 : Int))).toNat)) = y14
      · rw [if_pos c29] at h
        obtain ⟨c30,h⟩ := ifS h
        obtain ⟨y31,hy31,h⟩ := ob h
        have k32 := sha_Short_f_k (v0 ++ (strL [(IntKind.u8.wrap v1),(IntKind.u8.wrap v5),(IntKind.u8.wrap x5)])) _ hy31
        try simp only [CL,MC,Int.reduceToNat] at k32
        by_cases c33 : y7 = y31
        · rw [if_pos c33] at h
          injection h with h; subst h
          have ih := ih ((v4 ++ y11) ++ y14) (IntKind.i64.wrap (v5 + (1 : Int))) rfl
          unfold handsellaw02_OtsPieces_f_l1_P at ih
          simp -implicitDefEqProofs only [l_handsellaw02_OtsPieces_1,U_handsellaw02_OtsPieces,TT,Ic.t,Ic.ci,Nat.reduceEqDiff,reduceIte,Nat.reduceAdd,Nat.reduceMul,Nat.reduceLT,Nat.reduceLeDiff,Nat.reduceSub,reduceCtorEq,Int.reduceEq,Int.reduceNe,Int.reduceToNat,Int.reduceLT,Int.reduceLE,Int.reduceNeg,hl,c1,f3.1,f3.2.1,f3.2.2,c4,f6,k8,k10,k12,c13,k15,c16,c17,c26,eq_true c27,c28,eq_true c29,c30,k32,eq_true c33,CL,LTN]
          rw [hn]
          simp -implicitDefEqProofs only [TT,Ic.t,Ic.ci,Nat.reduceEqDiff,reduceIte,Nat.reduceAdd,Nat.reduceMul,Nat.reduceLT,Nat.reduceLeDiff,Nat.reduceSub,reduceCtorEq,Int.reduceEq,Int.reduceNe,Int.reduceToNat,Int.reduceLT,Int.reduceLE,Int.reduceNeg,hl,c1,f3.1,f3.2.1,f3.2.2,c4,f6,k8,k10,k12,c13,k15,c16,c17,c26,eq_true c27,c28,eq_true c29,c30,k32,eq_true c33,CL,LTN]
          exact ih  τ    (by first | assumption | (simp only [next_pt,lock_pt]; assumption)) Q hQ0 hQ1
        rw [if_neg c33] at h
        injection h with h; subst h
        obtain rfl : _ = r := ih
        simp -implicitDefEqProofs only [l_handsellaw02_OtsPieces_1,U_handsellaw02_OtsPieces,TT,Ic.t,Ic.ci,Nat.reduceEqDiff,reduceIte,Nat.reduceAdd,Nat.reduceMul,Nat.reduceLT,Nat.reduceLeDiff,Nat.reduceSub,reduceCtorEq,Int.reduceEq,Int.reduceNe,Int.reduceToNat,Int.reduceLT,Int.reduceLE,Int.reduceNeg,hl,he,hr,c1,f3.1,f3.2.1,f3.2.2,c4,f6,k8,k10,k12,c13,k15,c16,c17,c26,eq_true c27,c28,eq_true c29,c30,k32,c33,CL,LTN]
        exact hQ1 false rfl  _ _  (by first | exact cut_ge (Nat.le_refl _) | (simp -implicitDefEqProofs only [TT,Ic.t,Ic.ci,Nat.reduceEqDiff,reduceIte,Nat.reduceAdd,Nat.reduceMul,Nat.reduceLT,Nat.reduceLeDiff,Nat.reduceSub,reduceCtorEq,Int.reduceEq,Int.reduceNe,Int.reduceToNat,Int.reduceLT,Int.reduceLE,Int.reduceNeg,hl,c1,f3.1,f3.2.1,f3.2.2,c4,f6,k8,k10,k12,c13,k15,c16,c17,c26,eq_true c27,c28,eq_true c29,c30,k32,c33,CL,LTN]))
      rw [if_neg c29] at h
      injection h with h; subst h
      obtain rfl : _ = r := ih
      simp -implicitDefEqProofs only [l_handsellaw02_OtsPieces_1,U_handsellaw02_OtsPieces,TT,Ic.t,Ic.ci,Nat.reduceEqDiff,reduceIte,Nat.reduceAdd,Nat.reduceMul,Nat.reduceLT,Nat.reduceLeDiff,Nat.reduceSub,reduceCtorEq,Int.reduceEq,Int.reduceNe,Int.reduceToNat,Int.reduceLT,Int.reduceLE,Int.reduceNeg,hl,he,hr,c1,f3.1,f3.2.1,f3.2.2,c4,f6,k8,k10,k12,c13,k15,c16,c17,c26,eq_true c27,c28,c29,CL,LTN]
      exact hQ1 false rfl  _ _  (by first | exact cut_ge (Nat.le_refl _) | (simp -implicitDefEqProofs only [TT,Ic.t,Ic.ci,Nat.reduceEqDiff,reduceIte,Nat.reduceAdd,Nat.reduceMul,Nat.reduceLT,Nat.reduceLeDiff,Nat.reduceSub,reduceCtorEq,Int.reduceEq,Int.reduceNe,Int.reduceToNat,Int.reduceLT,Int.reduceLE,Int.reduceNeg,hl,c1,f3.1,f3.2.1,f3.2.2,c4,f6,k8,k10,k12,c13,k15,c16,c17,c26,eq_true c27,c28,c29,CL,LTN]))
    rw [if_neg c27] at h
    injection h with h; subst h
    obtain rfl : _ = r := ih
    simp -implicitDefEqProofs only [l_handsellaw02_OtsPieces_1,U_handsellaw02_OtsPieces,TT,Ic.t,Ic.ci,Nat.reduceEqDiff,reduceIte,Nat.reduceAdd,Nat.reduceMul,Nat.reduceLT,Nat.reduceLeDiff,Nat.reduceSub,reduceCtorEq,Int.reduceEq,Int.reduceNe,Int.reduceToNat,Int.reduceLT,Int.reduceLE,Int.reduceNeg,hl,he,hr,c1,f3.1,f3.2.1,f3.2.2,c4,f6,k8,k10,k12,c13,k15,c16,c17,c26,c27,CL,LTN]
    exact hQ1 false rfl  _ _  (by first | exact cut_ge (Nat.le_refl _) | (simp -implicitDefEqProofs only [TT,Ic.t,Ic.ci,Nat.reduceEqDiff,reduceIte,Nat.reduceAdd,Nat.reduceMul,Nat.reduceLT,Nat.reduceLeDiff,Nat.reduceSub,reduceCtorEq,Int.reduceEq,Int.reduceNe,Int.reduceToNat,Int.reduceLT,Int.reduceLE,Int.reduceNeg,hl,c1,f3.1,f3.2.1,f3.2.2,c4,f6,k8,k10,k12,c13,k15,c16,c17,c26,c27,CL,LTN]))
  rw [if_neg c1] at h
  injection h with h; subst h
  obtain rfl : _ = r := ih
  simp -implicitDefEqProofs only [l_handsellaw02_OtsPieces_1,U_handsellaw02_OtsPieces,TT,Ic.t,Ic.ci,Nat.reduceEqDiff,reduceIte,Nat.reduceAdd,Nat.reduceMul,Nat.reduceLT,Nat.reduceLeDiff,Nat.reduceSub,reduceCtorEq,Int.reduceEq,Int.reduceNe,Int.reduceToNat,Int.reduceLT,Int.reduceLE,Int.reduceNeg,hl,he,hr,c1,CL,LTN]
  exact hQ0 v4 rfl  _ _ _  (by first | rfl | (simp -implicitDefEqProofs only [TT,Ic.t,Ic.ci,Nat.reduceEqDiff,reduceIte,Nat.reduceAdd,Nat.reduceMul,Nat.reduceLT,Nat.reduceLeDiff,Nat.reduceSub,reduceCtorEq,Int.reduceEq,Int.reduceNe,Int.reduceToNat,Int.reduceLT,Int.reduceLE,Int.reduceNeg,hl,c1,CL,LTN])) (by first | rfl | (simp -implicitDefEqProofs only [TT,Ic.t,Ic.ci,Nat.reduceEqDiff,reduceIte,Nat.reduceAdd,Nat.reduceMul,Nat.reduceLT,Nat.reduceLeDiff,Nat.reduceSub,reduceCtorEq,Int.reduceEq,Int.reduceNe,Int.reduceToNat,Int.reduceLT,Int.reduceLE,Int.reduceNeg,hl,c1,CL,LTN])) (by first | rfl | (simp -implicitDefEqProofs only [TT,Ic.t,Ic.ci,Nat.reduceEqDiff,reduceIte,Nat.reduceAdd,Nat.reduceMul,Nat.reduceLT,Nat.reduceLeDiff,Nat.reduceSub,reduceCtorEq,Int.reduceEq,Int.reduceNe,Int.reduceToNat,Int.reduceLT,Int.reduceLE,Int.reduceNeg,hl,c1,CL,LTN])) (by first | rfl | (simp -implicitDefEqProofs only [TT,Ic.t,Ic.ci,Nat.reduceEqDiff,reduceIte,Nat.reduceAdd,Nat.reduceMul,Nat.reduceLT,Nat.reduceLeDiff,Nat.reduceSub,reduceCtorEq,Int.reduceEq,Int.reduceNe,Int.reduceToNat,Int.reduceLT,Int.reduceLE,Int.reduceNeg,hl,c1,CL,LTN])) (by first | exact cut_ge (Nat.le_refl _) | (simp -implicitDefEqProofs only [TT,Ic.t,Ic.ci,Nat.reduceEqDiff,reduceIte,Nat.reduceAdd,Nat.reduceMul,Nat.reduceLT,Nat.reduceLeDiff,Nat.reduceSub,reduceCtorEq,Int.reduceEq,Int.reduceNe,Int.reduceToNat,Int.reduceLT,Int.reduceLE,Int.reduceNeg,hl,c1,CL,LTN]))
noncomputable def handsellaw02_OtsPieces_f (p1 : ByteArray) (p2 : Int) (p3 : ByteArray) : Option Bool :=
  if (200 : Int) < ((p1.size : Nat) : Int) then
    handsellaw02_awake_f >>= fun y2 =>
    some y2
  else
  if (500 : Int) < ((p3.size : Nat) : Int) then
    handsellaw02_awake_f >>= fun y5 =>
    some y5
  else
  handsellaw00_Place_f p2 (256 : Int) >>= fun y7 =>
  ots_Sign_f p1 y7 p3 >>= fun y9 =>
  sha_Sum_f p3 >>= fun y11 =>
  if ((y9.size : Nat) : Int) = (512 : Int) then
    if ((y11.size : Nat) : Int) = (32 : Int) then
      handsellaw02_OtsPieces_f_l1 p1 y7 y9 y11 (⟨#[]⟩ : ByteArray) (0 : Int) >>= fun y15 =>
      match y15 with
      | .ex w16 =>
        ots_Public_f p1 y7 >>= fun y20 =>
        sha_Short_f w16 >>= fun y22 =>
        if y20 = y22 then
          handsellaw02_awake_f >>= fun y25 =>
          some y25
        else
        some false
      | .rt w18 =>
        some w18
    else
    some false
  else
  some false
theorem handsellaw02_OtsPieces_f_s (p1 : ByteArray) (p2 : Int) (p3 : ByteArray) (r : Bool) (h : handsellaw02_OtsPieces_f p1 p2 p3 = some r) (τ : TH) (hl : τ.lock ≤ τ.next) : Ru G F_handsellaw02_OtsPieces [.str p1,.int .i64 p2,.str p3] τ (.bool r) τ := by
  refine Ru_of fun K hK => ?_
  rw [tC_code g_handsellaw02_OtsPieces (Nat.le_of_ble_eq_true rfl)]
  unfold handsellaw02_OtsPieces_f at h
  by_cases c1 : (200 : Int) < ((p1.size : Nat) : Int)
  · rw [if_pos c1] at h
    obtain ⟨y2,hy2,h⟩ := ob h
    have k3 := handsellaw02_awake_f_k  _ hy2
    try simp only [CL,MC,Int.reduceToNat] at k3
    injection h with h; subst h
    simp -implicitDefEqProofs only [U_handsellaw02_OtsPieces,TT,Ic.t,Ic.ci,Nat.reduceEqDiff,reduceIte,Nat.reduceAdd,Nat.reduceMul,Nat.reduceLT,Nat.reduceLeDiff,Nat.reduceSub,reduceCtorEq,Int.reduceEq,Int.reduceNe,Int.reduceToNat,Int.reduceLT,Int.reduceLE,Int.reduceNeg,hl,c1,k3,CL,LTN]
    exact hK
  rw [if_neg c1] at h
  by_cases c4 : (500 : Int) < ((p3.size : Nat) : Int)
  · rw [if_pos c4] at h
    obtain ⟨y5,hy5,h⟩ := ob h
    have k6 := handsellaw02_awake_f_k  _ hy5
    try simp only [CL,MC,Int.reduceToNat] at k6
    injection h with h; subst h
    simp -implicitDefEqProofs only [U_handsellaw02_OtsPieces,TT,Ic.t,Ic.ci,Nat.reduceEqDiff,reduceIte,Nat.reduceAdd,Nat.reduceMul,Nat.reduceLT,Nat.reduceLeDiff,Nat.reduceSub,reduceCtorEq,Int.reduceEq,Int.reduceNe,Int.reduceToNat,Int.reduceLT,Int.reduceLE,Int.reduceNeg,hl,c1,c4,k6,CL,LTN]
    exact hK
  rw [if_neg c4] at h
  obtain ⟨y7,hy7,h⟩ := ob h
  have k8 := handsellaw00_Place_f_k p2 (256 : Int) _ hy7
  try simp only [CL,MC,Int.reduceToNat] at k8
  obtain ⟨y9,hy9,h⟩ := ob h
  have k10 := ots_Sign_f_k p1 y7 p3 _ hy9
  try simp only [CL,MC,Int.reduceToNat] at k10
  obtain ⟨y11,hy11,h⟩ := ob h
  have k12 := sha_Sum_f_k p3 _ hy11
  try simp only [CL,MC,Int.reduceToNat] at k12
  by_cases c13 : ((y9.size : Nat) : Int) = (512 : Int)
  · rw [if_pos c13] at h
    by_cases c14 : ((y11.size : Nat) : Int) = (32 : Int)
    · rw [if_pos c14] at h
      obtain ⟨y15,hy15,h⟩ := ob h
      simp -implicitDefEqProofs only [U_handsellaw02_OtsPieces,TT,Ic.t,Ic.ci,Nat.reduceEqDiff,reduceIte,Nat.reduceAdd,Nat.reduceMul,Nat.reduceLT,Nat.reduceLeDiff,Nat.reduceSub,reduceCtorEq,Int.reduceEq,Int.reduceNe,Int.reduceToNat,Int.reduceLT,Int.reduceLE,Int.reduceNeg,hl,c1,c4,k8,k10,k12,eq_true c13,eq_true c14,CL,LTN]
      have Sy15 := handsellaw02_OtsPieces_f_l1_s p1 y7 y9 y11 (⟨#[]⟩ : ByteArray) (0 : Int) y15 hy15
      unfold handsellaw02_OtsPieces_f_l1_P at Sy15
      refine Sy15 _ (by first | assumption | omega | (simp only [next_pt,next_pu,lock_pt,lock_pu]; omega)) _ ?_ ?_
      · intro w16 e frq17 tkq17 τq17 g0q17 g7q17 g10q17 htq17 hcq17
        subst e
        simp only at h
        have hcq17 := cut_via (n := τ.next) hcq17 (by first | omega | (simp only [next_pt,next_pu]; omega))
        try simp only [List.take_succ_cons,List.take_zero,List.take_nil,CL] at htq17
        try simp -implicitDefEqProofs only [TT,Ic.t,Ic.ci,Nat.reduceEqDiff,reduceIte,Nat.reduceAdd,Nat.reduceMul,Nat.reduceLT,Nat.reduceLeDiff,Nat.reduceSub,reduceCtorEq,Int.reduceEq,Int.reduceNe,Int.reduceToNat,Int.reduceLT,Int.reduceLE,Int.reduceNeg,hl,c1,c4,k8,k10,k12,eq_true c13,eq_true c14,CL,LTN] at hcq17
        obtain ⟨y20,hy20,h⟩ := ob h
        have k21 := ots_Public_f_k p1 y7 _ hy20
        try simp only [CL,MC,Int.reduceToNat] at k21
        obtain ⟨y22,hy22,h⟩ := ob h
        have k23 := sha_Short_f_k w16 _ hy22
        try simp only [CL,MC,Int.reduceToNat] at k23
        by_cases c24 : y20 = y22
        · rw [if_pos c24] at h
          obtain ⟨y25,hy25,h⟩ := ob h
          have k26 := handsellaw02_awake_f_k  _ hy25
          try simp only [CL,MC,Int.reduceToNat] at k26
          injection h with h; subst h
          simp -implicitDefEqProofs only [U_handsellaw02_OtsPieces,TT,Ic.t,Ic.ci,Nat.reduceEqDiff,reduceIte,Nat.reduceAdd,Nat.reduceMul,Nat.reduceLT,Nat.reduceLeDiff,Nat.reduceSub,reduceCtorEq,Int.reduceEq,Int.reduceNe,Int.reduceToNat,Int.reduceLT,Int.reduceLE,Int.reduceNeg,hl,c1,c4,k8,k10,k12,eq_true c13,eq_true c14,g0q17,g7q17,g10q17,htq17,hcq17,k21,k23,eq_true c24,k26,CL,LTN]
          exact hK
        rw [if_neg c24] at h
        injection h with h; subst h
        simp -implicitDefEqProofs only [U_handsellaw02_OtsPieces,TT,Ic.t,Ic.ci,Nat.reduceEqDiff,reduceIte,Nat.reduceAdd,Nat.reduceMul,Nat.reduceLT,Nat.reduceLeDiff,Nat.reduceSub,reduceCtorEq,Int.reduceEq,Int.reduceNe,Int.reduceToNat,Int.reduceLT,Int.reduceLE,Int.reduceNeg,hl,c1,c4,k8,k10,k12,eq_true c13,eq_true c14,g0q17,g7q17,g10q17,htq17,hcq17,k21,k23,c24,CL,LTN]
        exact hK
      intro w18 e tkq19 τq19 hcq19
      subst e
      simp only at h
      have hcq19 := cut_via (n := τ.next) hcq19 (by first | omega | (simp only [next_pt,next_pu]; omega))
      try simp -implicitDefEqProofs only [TT,Ic.t,Ic.ci,Nat.reduceEqDiff,reduceIte,Nat.reduceAdd,Nat.reduceMul,Nat.reduceLT,Nat.reduceLeDiff,Nat.reduceSub,reduceCtorEq,Int.reduceEq,Int.reduceNe,Int.reduceToNat,Int.reduceLT,Int.reduceLE,Int.reduceNeg,hl,c1,c4,k8,k10,k12,eq_true c13,eq_true c14,CL,LTN] at hcq19
      injection h with h; subst h
      simp -implicitDefEqProofs only [U_handsellaw02_OtsPieces,TT,Ic.t,Ic.ci,Nat.reduceEqDiff,reduceIte,Nat.reduceAdd,Nat.reduceMul,Nat.reduceLT,Nat.reduceLeDiff,Nat.reduceSub,reduceCtorEq,Int.reduceEq,Int.reduceNe,Int.reduceToNat,Int.reduceLT,Int.reduceLE,Int.reduceNeg,hl,c1,c4,k8,k10,k12,eq_true c13,eq_true c14,hcq19,CL,LTN]
      exact hK
    rw [if_neg c14] at h
    injection h with h; subst h
    simp -implicitDefEqProofs only [U_handsellaw02_OtsPieces,TT,Ic.t,Ic.ci,Nat.reduceEqDiff,reduceIte,Nat.reduceAdd,Nat.reduceMul,Nat.reduceLT,Nat.reduceLeDiff,Nat.reduceSub,reduceCtorEq,Int.reduceEq,Int.reduceNe,Int.reduceToNat,Int.reduceLT,Int.reduceLE,Int.reduceNeg,hl,c1,c4,k8,k10,k12,eq_true c13,c14,CL,LTN]
    exact hK
  rw [if_neg c13] at h
  injection h with h; subst h
  simp -implicitDefEqProofs only [U_handsellaw02_OtsPieces,TT,Ic.t,Ic.ci,Nat.reduceEqDiff,reduceIte,Nat.reduceAdd,Nat.reduceMul,Nat.reduceLT,Nat.reduceLeDiff,Nat.reduceSub,reduceCtorEq,Int.reduceEq,Int.reduceNe,Int.reduceToNat,Int.reduceLT,Int.reduceLE,Int.reduceNeg,hl,c1,c4,k8,k10,k12,c13,CL,LTN]
  exact hK
theorem handsellaw02_OtsPieces_f_k (p1 : ByteArray) (p2 : Int) (p3 : ByteArray) (r : Bool) (h : handsellaw02_OtsPieces_f p1 p2 p3 = some r) (lk : Bool) (d : Option Nat) (K : TCont) (fr : TF) (tk : TK) (τ : TH) (hl : τ.lock ≤ τ.next) : callK G lk F_handsellaw02_OtsPieces [.str p1,.int .i64 p2,.str p3] d K fr tk τ = K (tput fr d (.bool r)) tk τ :=
  callK_rdo (handsellaw02_OtsPieces_f_s p1 p2 p3 r h τ  hl) (handsellaw02_OtsPieces_f_s p1 p2 p3 r h (τ.locked τ.next)  (Nat.le_refl _) ) (by simp -implicitDefEqProofs only [TT,Ic.t,Ic.ci,Nat.reduceEqDiff,reduceIte,Nat.reduceAdd,Nat.reduceMul,Nat.reduceLT,Nat.reduceLeDiff,Nat.reduceSub,reduceCtorEq,Int.reduceEq,Int.reduceNe,Int.reduceToNat,Int.reduceLT,Int.reduceLE,Int.reduceNeg,hl,CL,LTN])
noncomputable def handselref01_table_f  : Option (List Int) :=
  some [(1116352408 : Int),(1899447441 : Int),(3049323471 : Int),(3921009573 : Int),(961987163 : Int),(1508970993 : Int),(2453635748 : Int),(2870763221 : Int),(3624381080 : Int),(310598401 : Int),(607225278 : Int),(1426881987 : Int),(1925078388 : Int),(2162078206 : Int),(2614888103 : Int),(3248222580 : Int),(3835390401 : Int),(4022224774 : Int),(264347078 : Int),(604807628 : Int),(770255983 : Int),(1249150122 : Int),(1555081692 : Int),(1996064986 : Int),(2554220882 : Int),(2821834349 : Int),(2952996808 : Int),(3210313671 : Int),(3336571891 : Int),(3584528711 : Int),(113926993 : Int),(338241895 : Int),(666307205 : Int),(773529912 : Int),(1294757372 : Int),(1396182291 : Int),(1695183700 : Int),(1986661051 : Int),(2177026350 : Int),(2456956037 : Int),(2730485921 : Int),(2820302411 : Int),(3259730800 : Int),(3345764771 : Int),(3516065817 : Int),(3600352804 : Int),(4094571909 : Int),(275423344 : Int),(430227734 : Int),(506948616 : Int),(659060556 : Int),(883997877 : Int),(958139571 : Int),(1322822218 : Int),(1537002063 : Int),(1747873779 : Int),(1955562222 : Int),(2024104815 : Int),(2227730452 : Int),(2361852424 : Int),(2428436474 : Int),(2756734187 : Int),(3204031479 : Int),(3329325298 : Int)]
theorem handselref01_table_f_s  (r : (List Int)) (h : handselref01_table_f  = some r) (τ : TH) (hl : τ.lock ≤ τ.next) : Ru G F_handselref01_table [] τ (.agg (List.map (TV.int .u32) r)) τ := by
  refine Ru_of fun K hK => ?_
  rw [tC_code g_handselref01_table (Nat.le_of_ble_eq_true rfl)]
  unfold handselref01_table_f at h
  injection h with h; subst h
  simp -implicitDefEqProofs only [U_handselref01_table,TT,Ic.t,Ic.ci,Nat.reduceEqDiff,reduceIte,Nat.reduceAdd,Nat.reduceMul,Nat.reduceLT,Nat.reduceLeDiff,Nat.reduceSub,reduceCtorEq,Int.reduceEq,Int.reduceNe,Int.reduceToNat,Int.reduceLT,Int.reduceLE,Int.reduceNeg,hl,CL,LTN]
  exact hK
theorem handselref01_table_f_k  (r : (List Int)) (h : handselref01_table_f  = some r) (lk : Bool) (d : Option Nat) (K : TCont) (fr : TF) (tk : TK) (τ : TH) (hl : τ.lock ≤ τ.next) : callK G lk F_handselref01_table [] d K fr tk τ = K (tput fr d (.agg (List.map (TV.int .u32) r))) tk τ :=
  callK_rdo (handselref01_table_f_s  r h τ  hl) (handselref01_table_f_s  r h (τ.locked τ.next)  (Nat.le_refl _) ) (by simp -implicitDefEqProofs only [TT,Ic.t,Ic.ci,Nat.reduceEqDiff,reduceIte,Nat.reduceAdd,Nat.reduceMul,Nat.reduceLT,Nat.reduceLeDiff,Nat.reduceSub,reduceCtorEq,Int.reduceEq,Int.reduceNe,Int.reduceToNat,Int.reduceLT,Int.reduceLE,Int.reduceNeg,hl,CL,LTN])
noncomputable def handselref01_turn_f (p1 : Int) (p2 : Int) : Option Int :=
  if ¬ p2 < 0 then
    if ¬ (IntKind.u64.wrap ((32 : Int) - p2)) < 0 then
      some (IntKind.u32.wrap ((BitVec.ofInt IntKind.u32.bits (Int.fdiv p1 (2 ^ (Nat.min p2.toNat IntKind.u32.bits))) ||| BitVec.ofInt IntKind.u32.bits (IntKind.u32.wrap (p1 * 2 ^ (Nat.min (IntKind.u64.wrap ((32 : Int) - p2)).toNat IntKind.u32.bits)))).toNat : Int)) >>= fun x3 =>
      some x3
    else
      none
  else
    none
theorem handselref01_turn_f_s (p1 : Int) (p2 : Int) (r : Int) (h : handselref01_turn_f p1 p2 = some r) (τ : TH) (hl : τ.lock ≤ τ.next) : Ru G F_handselref01_turn [.int .u32 p1,.int .u64 p2] τ (.int .u32 r) τ := by
  refine Ru_of fun K hK => ?_
  rw [tC_code g_handselref01_turn (Nat.le_of_ble_eq_true rfl)]
  unfold handselref01_turn_f at h
  obtain ⟨c1,h⟩ := ifS h
  obtain ⟨c2,h⟩ := ifS h
  obtain ⟨x3,hx3,h⟩ := ob h
  have f4 := Option.some.inj hx3
  injection h with h; subst h
  simp -implicitDefEqProofs only [U_handselref01_turn,TT,Ic.t,Ic.ci,Nat.reduceEqDiff,reduceIte,Nat.reduceAdd,Nat.reduceMul,Nat.reduceLT,Nat.reduceLeDiff,Nat.reduceSub,reduceCtorEq,Int.reduceEq,Int.reduceNe,Int.reduceToNat,Int.reduceLT,Int.reduceLE,Int.reduceNeg,hl,c1,c2,f4,CL,LTN]
  exact hK
theorem handselref01_turn_f_k (p1 : Int) (p2 : Int) (r : Int) (h : handselref01_turn_f p1 p2 = some r) (lk : Bool) (d : Option Nat) (K : TCont) (fr : TF) (tk : TK) (τ : TH) (hl : τ.lock ≤ τ.next) : callK G lk F_handselref01_turn [.int .u32 p1,.int .u64 p2] d K fr tk τ = K (tput fr d (.int .u32 r)) tk τ :=
  callK_rdo (handselref01_turn_f_s p1 p2 r h τ  hl) (handselref01_turn_f_s p1 p2 r h (τ.locked τ.next)  (Nat.le_refl _) ) (by simp -implicitDefEqProofs only [TT,Ic.t,Ic.ci,Nat.reduceEqDiff,reduceIte,Nat.reduceAdd,Nat.reduceMul,Nat.reduceLT,Nat.reduceLeDiff,Nat.reduceSub,reduceCtorEq,Int.reduceEq,Int.reduceNe,Int.reduceToNat,Int.reduceLT,Int.reduceLE,Int.reduceNeg,hl,CL,LTN])
noncomputable def handselref01_block_f_l1_step (v0 : ByteArray) (v1 : (List Int)) (v2 : (List Int)) (v4 : (List Int)) (v3 : (List Int)) (v5 : Int) : Option (LS ((List Int) × Int) ((List Int))) :=
  if v5 < (16 : Int) then
    ixB v0 (IntKind.i64.wrap ((4 : Int) * v5)) >>= fun b2 =>
    ixB v0 (IntKind.i64.wrap ((IntKind.i64.wrap ((4 : Int) * v5)) + (1 : Int))) >>= fun b4 =>
    ixB v0 (IntKind.i64.wrap ((IntKind.i64.wrap ((4 : Int) * v5)) + (2 : Int))) >>= fun b6 =>
    ixB v0 (IntKind.i64.wrap ((IntKind.i64.wrap ((4 : Int) * v5)) + (3 : Int))) >>= fun b8 =>
    if 0 ≤ v5 ∧ v5 < ((64 : Nat) : Int) then
      if v5.toNat + 1 ≤ v3.length then
        some (.nx ((v3.set v5.toNat (IntKind.u32.wrap ((BitVec.ofInt IntKind.u32.bits (IntKind.u32.wrap ((BitVec.ofInt IntKind.u32.bits (IntKind.u32.wrap ((BitVec.ofInt IntKind.u32.bits (IntKind.u32.wrap ((IntKind.u32.wrap b2) * 2 ^ (Nat.min 24 IntKind.u32.bits))) ||| BitVec.ofInt IntKind.u32.bits (IntKind.u32.wrap ((IntKind.u32.wrap b4) * 2 ^ (Nat.min 16 IntKind.u32.bits)))).toNat : Int)) ||| BitVec.ofInt IntKind.u32.bits (IntKind.u32.wrap ((IntKind.u32.wrap b6) * 2 ^ (Nat.min 8 IntKind.u32.bits)))).toNat : Int)) ||| BitVec.ofInt IntKind.u32.bits (IntKind.u32.wrap b8)).toNat : Int))),(IntKind.i64.wrap (v5 + (1 : Int)))))
      else
        none
    else
      none
  else
  some (.dn v3)
noncomputable def handselref01_block_f_l1 (v0 : ByteArray) (v1 : (List Int)) (v2 : (List Int)) (v4 : (List Int)) (v3 : (List Int)) (v5 : Int) : Option ((List Int)) := iterO (fun st => handselref01_block_f_l1_step v0 v1 v2 v4 st.1 st.2) (v3,v5)
theorem handselref01_block_f_l1_eq (v0 : ByteArray) (v1 : (List Int)) (v2 : (List Int)) (v4 : (List Int)) (v3 : (List Int)) (v5 : Int) : handselref01_block_f_l1 v0 v1 v2 v4 v3 v5 = handselref01_block_f_l1_step v0 v1 v2 v4 v3 v5 >>= LS.go (fun st => handselref01_block_f_l1 v0 v1 v2 v4 st.1 st.2) := iterO_eq (fun st => handselref01_block_f_l1_step v0 v1 v2 v4 st.1 st.2) (v3,v5)
def handselref01_block_f_l1_P (v0 : ByteArray) (v1 : (List Int)) (v2 : (List Int)) (v4 : (List Int)) (v3 : (List Int)) (v5 : Int) (r : (List Int)) : Prop := ∀ (τ : TH) (o0 : Nat) (o1 : Nat) (o2 : Nat) (o3 : Nat) (hl : τ.lock ≤ τ.next) (ha0 : τ.at o0 = some ⟨T_8_uint32,List.map (TV.int .u32) v1⟩) (hi0 : o0 < τ.next) (ha1 : τ.at o1 = some ⟨T_8_uint32,List.map (TV.int .u32) v2⟩) (hi1 : o1 < τ.next) (ha2 : τ.at o2 = some ⟨T_64_uint32,List.map (TV.int .u32) v3⟩) (hi2 : o2 < τ.next) (hw2 : τ.lock ≤ o2) (ha3 : τ.at o3 = some ⟨T_64_uint32,List.map (TV.int .u32) v4⟩) (hi3 : o3 < τ.next) (hn0_2 : o0 ≠ o2) (hn1_2 : o1 ≠ o2) (hn2_3 : o2 ≠ o3) (Q : TEx → TCont) (hQ0 : ∀ (fr : TF) (tk2 : TK) (τ2 : TH),lkp fr 2 = .ptr o0 0 → lkp fr 4 = .ptr o1 0 → lkp fr 5 = .ptr o2 0 → lkp fr 6 = .ptr o3 0 → tk2.take 0 = [] → τ2.cut τ.next = (τ.put o2 ⟨T_64_uint32,List.map (TV.int .u32) r⟩) → Q (.exit 0) fr tk2 τ2) ,tW G (.loop [1,2,4,5,6,7] l_handselref01_block_1) Q [(1,.str v0),(2,.ptr o0 0),(4,.ptr o1 0),(5,.ptr o2 0),(6,.ptr o3 0),(7,.int .i64 v5)] [] τ
theorem handselref01_block_f_l1_s (v0 : ByteArray) (v1 : (List Int)) (v2 : (List Int)) (v4 : (List Int)) (v3 : (List Int)) (v5 : Int) (r : (List Int)) (h : handselref01_block_f_l1 v0 v1 v2 v4 v3 v5 = some r) : handselref01_block_f_l1_P v0 v1 v2 v4 v3 v5 r := by
  refine iterO_ind (f := fun st => handselref01_block_f_l1_step v0 v1 v2 v4 st.1 st.2) (P := fun st r => ∀ (v3 : (List Int)) (v5 : Int),(v3,v5) = st → handselref01_block_f_l1_P v0 v1 v2 v4 v3 v5 r) ?_ h v3 v5 rfl
  clear h r v5 v3
  intro st o h r ih v3 v5 hst τ o0 o1 o2 o3  hl ha0 hi0 ha1 hi1 ha2 hi2 hw2 ha3 hi3 hn0_2 hn1_2 hn2_3 Q hQ0
  subst hst
  have h : handselref01_block_f_l1_step v0 v1 v2 v4 v3 v5 = some o := h
  unfold handselref01_block_f_l1_step at h
  refine tW_lp fun LQ hn hr he => ?_
  by_cases c1 : v5 < (16 : Int)
  · rw [if_pos c1] at h
    obtain ⟨b2,hb2,h⟩ := ob h
    have f3 := ixB_facts hb2
    try simp only [CL,MC,Int.reduceToNat] at f3
    obtain ⟨b4,hb4,h⟩ := ob h
    have f5 := ixB_facts hb4
    try simp only [CL,MC,Int.reduceToNat] at f5
    obtain ⟨b6,hb6,h⟩ := ob h
    have f7 := ixB_facts hb6
    try simp only [CL,MC,Int.reduceToNat] at f7
    obtain ⟨b8,hb8,h⟩ := ob h
    have f9 := ixB_facts hb8
    try simp only [CL,MC,Int.reduceToNat] at f9
    obtain ⟨c10,h⟩ := ifS h
    obtain ⟨c11,h⟩ := ifS h
    have f12 : (List.map (TV.int .u32) v3).set v5.toNat (.int .u32 (IntKind.u32.wrap ((BitVec.ofInt IntKind.u32.bits (IntKind.u32.wrap ((BitVec.ofInt IntKind.u32.bits (IntKind.u32.wrap ((BitVec.ofInt IntKind.u32.bits (IntKind.u32.wrap ((IntKind.u32.wrap b2) * 2 ^ (Nat.min 24 IntKind.u32.bits))) ||| BitVec.ofInt IntKind.u32.bits (IntKind.u32.wrap ((IntKind.u32.wrap b4) * 2 ^ (Nat.min 16 IntKind.u32.bits)))).toNat : Int)) ||| BitVec.ofInt IntKind.u32.bits (IntKind.u32.wrap ((IntKind.u32.wrap b6) * 2 ^ (Nat.min 8 IntKind.u32.bits)))).toNat : Int)) ||| BitVec.ofInt IntKind.u32.bits (IntKind.u32.wrap b8)).toNat : Int))) = List.map (TV.int .u32) (v3.set v5.toNat (IntKind.u32.wrap ((BitVec.ofInt IntKind.u32.bits (IntKind.u32.wrap ((BitVec.ofInt IntKind.u32.bits (IntKind.u32.wrap ((BitVec.ofInt IntKind.u32.bits (IntKind.u32.wrap ((IntKind.u32.wrap b2) * 2 ^ (Nat.min 24 IntKind.u32.bits))) ||| BitVec.ofInt IntKind.u32.bits (IntKind.u32.wrap ((IntKind.u32.wrap b4) * 2 ^ (Nat.min 16 IntKind.u32.bits)))).toNat : Int)) ||| BitVec.ofInt IntKind.u32.bits (IntKind.u32.wrap ((IntKind.u32.wrap b6) * 2 ^ (Nat.min 8 IntKind.u32.bits)))).toNat : Int)) ||| BitVec.ofInt IntKind.u32.bits (IntKind.u32.wrap b8)).toNat : Int))) := setm (enc := (TV.int .u32)) _ _ _
    injection h with h; subst h
    have ih := ih (v3.set v5.toNat (IntKind.u32.wrap ((BitVec.ofInt IntKind.u32.bits (IntKind.u32.wrap ((BitVec.ofInt IntKind.u32.bits (IntKind.u32.wrap ((BitVec.ofInt IntKind.u32.bits (IntKind.u32.wrap ((IntKind.u32.wrap b2) * 2 ^ (Nat.min 24 IntKind.u32.bits))) ||| BitVec.ofInt IntKind.u32.bits (IntKind.u32.wrap ((IntKind.u32.wrap b4) * 2 ^ (Nat.min 16 IntKind.u32.bits)))).toNat : Int)) ||| BitVec.ofInt IntKind.u32.bits (IntKind.u32.wrap ((IntKind.u32.wrap b6) * 2 ^ (Nat.min 8 IntKind.u32.bits)))).toNat : Int)) ||| BitVec.ofInt IntKind.u32.bits (IntKind.u32.wrap b8)).toNat : Int))) (IntKind.i64.wrap (v5 + (1 : Int))) rfl
    unfold handselref01_block_f_l1_P at ih
    simp -implicitDefEqProofs only [l_handselref01_block_1,U_handselref01_block,TT,Ic.t,Ic.ci,Nat.reduceEqDiff,reduceIte,Nat.reduceAdd,Nat.reduceMul,Nat.reduceLT,Nat.reduceLeDiff,Nat.reduceSub,reduceCtorEq,Int.reduceEq,Int.reduceNe,Int.reduceToNat,Int.reduceLT,Int.reduceLE,Int.reduceNeg,hl,ha0,hi0,ha1,hi1,ha2,hi2,hw2,ha3,hi3,nq hn0_2,nq hn1_2,nq hn2_3,c1,f3.1,f3.2.1,f3.2.2,f5.1,f5.2.1,f5.2.2,f7.1,f7.2.1,f7.2.2,f9.1,f9.2.1,f9.2.2,c10,c11,f12,CL,LTN]
    rw [hn]
    simp -implicitDefEqProofs only [TT,Ic.t,Ic.ci,Nat.reduceEqDiff,reduceIte,Nat.reduceAdd,Nat.reduceMul,Nat.reduceLT,Nat.reduceLeDiff,Nat.reduceSub,reduceCtorEq,Int.reduceEq,Int.reduceNe,Int.reduceToNat,Int.reduceLT,Int.reduceLE,Int.reduceNeg,hl,ha0,hi0,ha1,hi1,ha2,hi2,hw2,ha3,hi3,nq hn0_2,nq hn1_2,nq hn2_3,c1,f3.1,f3.2.1,f3.2.2,f5.1,f5.2.1,f5.2.2,f7.1,f7.2.1,f7.2.2,f9.1,f9.2.1,f9.2.2,c10,c11,f12,CL,LTN]
    exact ih  (τ.put o2 ⟨T_64_uint32,List.map (TV.int .u32) (v3.set v5.toNat (IntKind.u32.wrap ((BitVec.ofInt IntKind.u32.bits (IntKind.u32.wrap ((BitVec.ofInt IntKind.u32.bits (IntKind.u32.wrap ((BitVec.ofInt IntKind.u32.bits (IntKind.u32.wrap ((IntKind.u32.wrap b2) * 2 ^ (Nat.min 24 IntKind.u32.bits))) ||| BitVec.ofInt IntKind.u32.bits (IntKind.u32.wrap ((IntKind.u32.wrap b4) * 2 ^ (Nat.min 16 IntKind.u32.bits)))).toNat : Int)) ||| BitVec.ofInt IntKind.u32.bits (IntKind.u32.wrap ((IntKind.u32.wrap b6) * 2 ^ (Nat.min 8 IntKind.u32.bits)))).toNat : Int)) ||| BitVec.ofInt IntKind.u32.bits (IntKind.u32.wrap b8)).toNat : Int)))⟩) o0 o1 o2 o3   (by first | assumption | (simp only [next_pt,lock_pt]; assumption)) (by simp -implicitDefEqProofs only [TT,Ic.t,Ic.ci,Nat.reduceEqDiff,reduceIte,Nat.reduceAdd,Nat.reduceMul,Nat.reduceLT,Nat.reduceLeDiff,Nat.reduceSub,reduceCtorEq,Int.reduceEq,Int.reduceNe,Int.reduceToNat,Int.reduceLT,Int.reduceLE,Int.reduceNeg,hl,ha0,hi0,ha1,hi1,ha2,hi2,hw2,ha3,hi3,nq hn0_2,nq hn1_2,nq hn2_3,c1,f3.1,f3.2.1,f3.2.2,f5.1,f5.2.1,f5.2.2,f7.1,f7.2.1,f7.2.2,f9.1,f9.2.1,f9.2.2,c10,c11,f12,CL,LTN]) (by first | assumption | (simp only [next_pt,lock_pt]; assumption)) (by simp -implicitDefEqProofs only [TT,Ic.t,Ic.ci,Nat.reduceEqDiff,reduceIte,Nat.reduceAdd,Nat.reduceMul,Nat.reduceLT,Nat.reduceLeDiff,Nat.reduceSub,reduceCtorEq,Int.reduceEq,Int.reduceNe,Int.reduceToNat,Int.reduceLT,Int.reduceLE,Int.reduceNeg,hl,ha0,hi0,ha1,hi1,ha2,hi2,hw2,ha3,hi3,nq hn0_2,nq hn1_2,nq hn2_3,c1,f3.1,f3.2.1,f3.2.2,f5.1,f5.2.1,f5.2.2,f7.1,f7.2.1,f7.2.2,f9.1,f9.2.1,f9.2.2,c10,c11,f12,CL,LTN]) (by first | assumption | (simp only [next_pt,lock_pt]; assumption)) (by simp -implicitDefEqProofs only [TT,Ic.t,Ic.ci,Nat.reduceEqDiff,reduceIte,Nat.reduceAdd,Nat.reduceMul,Nat.reduceLT,Nat.reduceLeDiff,Nat.reduceSub,reduceCtorEq,Int.reduceEq,Int.reduceNe,Int.reduceToNat,Int.reduceLT,Int.reduceLE,Int.reduceNeg,hl,ha0,hi0,ha1,hi1,ha2,hi2,hw2,ha3,hi3,nq hn0_2,nq hn1_2,nq hn2_3,c1,f3.1,f3.2.1,f3.2.2,f5.1,f5.2.1,f5.2.2,f7.1,f7.2.1,f7.2.2,f9.1,f9.2.1,f9.2.2,c10,c11,f12,CL,LTN]) (by first | assumption | (simp only [next_pt,lock_pt]; assumption)) (by first | assumption | (simp only [next_pt,lock_pt]; assumption)) (by simp -implicitDefEqProofs only [TT,Ic.t,Ic.ci,Nat.reduceEqDiff,reduceIte,Nat.reduceAdd,Nat.reduceMul,Nat.reduceLT,Nat.reduceLeDiff,Nat.reduceSub,reduceCtorEq,Int.reduceEq,Int.reduceNe,Int.reduceToNat,Int.reduceLT,Int.reduceLE,Int.reduceNeg,hl,ha0,hi0,ha1,hi1,ha2,hi2,hw2,ha3,hi3,nq hn0_2,nq hn1_2,nq hn2_3,c1,f3.1,f3.2.1,f3.2.2,f5.1,f5.2.1,f5.2.2,f7.1,f7.2.1,f7.2.2,f9.1,f9.2.1,f9.2.2,c10,c11,f12,CL,LTN]) (by first | assumption | (simp only [next_pt,lock_pt]; assumption)) hn0_2 hn1_2 hn2_3 Q (fun fr tk2 τ2 g0 g1 g2 g3 ht hτ => hQ0 fr tk2 τ2 g0 g1 g2 g3 ht (by first | exact hτ | simpa only [next_pt,pt_pt,hl,ha0,hi0,ha1,hi1,ha2,hi2,hw2,ha3,hi3,nq hn0_2,nq hn1_2,nq hn2_3] using hτ))
  rw [if_neg c1] at h
  injection h with h; subst h
  obtain rfl : _ = r := ih
  simp -implicitDefEqProofs only [l_handselref01_block_1,U_handselref01_block,TT,Ic.t,Ic.ci,Nat.reduceEqDiff,reduceIte,Nat.reduceAdd,Nat.reduceMul,Nat.reduceLT,Nat.reduceLeDiff,Nat.reduceSub,reduceCtorEq,Int.reduceEq,Int.reduceNe,Int.reduceToNat,Int.reduceLT,Int.reduceLE,Int.reduceNeg,hl,ha0,hi0,ha1,hi1,ha2,hi2,hw2,ha3,hi3,nq hn0_2,nq hn1_2,nq hn2_3,he,hr,c1,CL,LTN]
  exact hQ0  _ _ _  (by first | rfl | (simp -implicitDefEqProofs only [TT,Ic.t,Ic.ci,Nat.reduceEqDiff,reduceIte,Nat.reduceAdd,Nat.reduceMul,Nat.reduceLT,Nat.reduceLeDiff,Nat.reduceSub,reduceCtorEq,Int.reduceEq,Int.reduceNe,Int.reduceToNat,Int.reduceLT,Int.reduceLE,Int.reduceNeg,hl,ha0,hi0,ha1,hi1,ha2,hi2,hw2,ha3,hi3,nq hn0_2,nq hn1_2,nq hn2_3,c1,CL,LTN])) (by first | rfl | (simp -implicitDefEqProofs only [TT,Ic.t,Ic.ci,Nat.reduceEqDiff,reduceIte,Nat.reduceAdd,Nat.reduceMul,Nat.reduceLT,Nat.reduceLeDiff,Nat.reduceSub,reduceCtorEq,Int.reduceEq,Int.reduceNe,Int.reduceToNat,Int.reduceLT,Int.reduceLE,Int.reduceNeg,hl,ha0,hi0,ha1,hi1,ha2,hi2,hw2,ha3,hi3,nq hn0_2,nq hn1_2,nq hn2_3,c1,CL,LTN])) (by first | rfl | (simp -implicitDefEqProofs only [TT,Ic.t,Ic.ci,Nat.reduceEqDiff,reduceIte,Nat.reduceAdd,Nat.reduceMul,Nat.reduceLT,Nat.reduceLeDiff,Nat.reduceSub,reduceCtorEq,Int.reduceEq,Int.reduceNe,Int.reduceToNat,Int.reduceLT,Int.reduceLE,Int.reduceNeg,hl,ha0,hi0,ha1,hi1,ha2,hi2,hw2,ha3,hi3,nq hn0_2,nq hn1_2,nq hn2_3,c1,CL,LTN])) (by first | rfl | (simp -implicitDefEqProofs only [TT,Ic.t,Ic.ci,Nat.reduceEqDiff,reduceIte,Nat.reduceAdd,Nat.reduceMul,Nat.reduceLT,Nat.reduceLeDiff,Nat.reduceSub,reduceCtorEq,Int.reduceEq,Int.reduceNe,Int.reduceToNat,Int.reduceLT,Int.reduceLE,Int.reduceNeg,hl,ha0,hi0,ha1,hi1,ha2,hi2,hw2,ha3,hi3,nq hn0_2,nq hn1_2,nq hn2_3,c1,CL,LTN])) (by first | rfl | (simp -implicitDefEqProofs only [TT,Ic.t,Ic.ci,Nat.reduceEqDiff,reduceIte,Nat.reduceAdd,Nat.reduceMul,Nat.reduceLT,Nat.reduceLeDiff,Nat.reduceSub,reduceCtorEq,Int.reduceEq,Int.reduceNe,Int.reduceToNat,Int.reduceLT,Int.reduceLE,Int.reduceNeg,hl,ha0,hi0,ha1,hi1,ha2,hi2,hw2,ha3,hi3,nq hn0_2,nq hn1_2,nq hn2_3,c1,CL,LTN])) (by first | exact cut_ge (Nat.le_refl _) | (simp -implicitDefEqProofs only [TT,Ic.t,Ic.ci,Nat.reduceEqDiff,reduceIte,Nat.reduceAdd,Nat.reduceMul,Nat.reduceLT,Nat.reduceLeDiff,Nat.reduceSub,reduceCtorEq,Int.reduceEq,Int.reduceNe,Int.reduceToNat,Int.reduceLT,Int.reduceLE,Int.reduceNeg,hl,ha0,hi0,ha1,hi1,ha2,hi2,hw2,ha3,hi3,nq hn0_2,nq hn1_2,nq hn2_3,put_same ha2,c1,CL,LTN]))
noncomputable def handselref01_block_f_l2_step (v0 : (List Int)) (v1 : (List Int)) (v3 : (List Int)) (v2 : (List Int)) (v4 : Int) : Option (LS ((List Int) × Int) ((List Int))) :=
  if v4 < (64 : Int) then
    if 0 ≤ (IntKind.i64.wrap (v4 - (15 : Int))) ∧ (IntKind.i64.wrap (v4 - (15 : Int))) < ((64 : Nat) : Int) then
      ixL v2 (IntKind.i64.wrap (v4 - (15 : Int))) >>= fun y3 =>
      handselref01_turn_f y3 (7 : Int) >>= fun y5 =>
      handselref01_turn_f y3 (18 : Int) >>= fun y7 =>
      some (IntKind.u32.wrap ((BitVec.ofInt IntKind.u32.bits (IntKind.u32.wrap ((BitVec.ofInt IntKind.u32.bits y5 ^^^ BitVec.ofInt IntKind.u32.bits y7).toNat : Int)) ^^^ BitVec.ofInt IntKind.u32.bits (Int.fdiv y3 (2 ^ (Nat.min 3 IntKind.u32.bits)))).toNat : Int)) >>= fun x9 =>
      if 0 ≤ (IntKind.i64.wrap (v4 - (2 : Int))) ∧ (IntKind.i64.wrap (v4 - (2 : Int))) < ((64 : Nat) : Int) then
        ixL v2 (IntKind.i64.wrap (v4 - (2 : Int))) >>= fun y12 =>
        handselref01_turn_f y12 (17 : Int) >>= fun y14 =>
        handselref01_turn_f y12 (19 : Int) >>= fun y16 =>
        some (IntKind.u32.wrap ((BitVec.ofInt IntKind.u32.bits (IntKind.u32.wrap ((BitVec.ofInt IntKind.u32.bits y14 ^^^ BitVec.ofInt IntKind.u32.bits y16).toNat : Int)) ^^^ BitVec.ofInt IntKind.u32.bits (Int.fdiv y12 (2 ^ (Nat.min 10 IntKind.u32.bits)))).toNat : Int)) >>= fun x18 =>
        if 0 ≤ (IntKind.i64.wrap (v4 - (16 : Int))) ∧ (IntKind.i64.wrap (v4 - (16 : Int))) < ((64 : Nat) : Int) then
          ixL v2 (IntKind.i64.wrap (v4 - (16 : Int))) >>= fun y21 =>
          if 0 ≤ (IntKind.i64.wrap (v4 - (7 : Int))) ∧ (IntKind.i64.wrap (v4 - (7 : Int))) < ((64 : Nat) : Int) then
            ixL v2 (IntKind.i64.wrap (v4 - (7 : Int))) >>= fun y24 =>
            if 0 ≤ v4 ∧ v4 < ((64 : Nat) : Int) then
              if v4.toNat + 1 ≤ v2.length then
                some (.nx ((v2.set v4.toNat (IntKind.u32.wrap ((IntKind.u32.wrap ((IntKind.u32.wrap (y21 + x9)) + y24)) + x18))),(IntKind.i64.wrap (v4 + (1 : Int)))))
              else
                none
            else
              none
          else
            none
        else
          none
      else
        none
    else
      none
  else
  some (.dn v2)
noncomputable def handselref01_block_f_l2 (v0 : (List Int)) (v1 : (List Int)) (v3 : (List Int)) (v2 : (List Int)) (v4 : Int) : Option ((List Int)) := iterO (fun st => handselref01_block_f_l2_step v0 v1 v3 st.1 st.2) (v2,v4)
theorem handselref01_block_f_l2_eq (v0 : (List Int)) (v1 : (List Int)) (v3 : (List Int)) (v2 : (List Int)) (v4 : Int) : handselref01_block_f_l2 v0 v1 v3 v2 v4 = handselref01_block_f_l2_step v0 v1 v3 v2 v4 >>= LS.go (fun st => handselref01_block_f_l2 v0 v1 v3 st.1 st.2) := iterO_eq (fun st => handselref01_block_f_l2_step v0 v1 v3 st.1 st.2) (v2,v4)
def handselref01_block_f_l2_P (v0 : (List Int)) (v1 : (List Int)) (v3 : (List Int)) (v2 : (List Int)) (v4 : Int) (r : (List Int)) : Prop := ∀ (τ : TH) (o0 : Nat) (o1 : Nat) (o2 : Nat) (o3 : Nat) (hl : τ.lock ≤ τ.next) (ha0 : τ.at o0 = some ⟨T_8_uint32,List.map (TV.int .u32) v0⟩) (hi0 : o0 < τ.next) (ha1 : τ.at o1 = some ⟨T_8_uint32,List.map (TV.int .u32) v1⟩) (hi1 : o1 < τ.next) (ha2 : τ.at o2 = some ⟨T_64_uint32,List.map (TV.int .u32) v2⟩) (hi2 : o2 < τ.next) (hw2 : τ.lock ≤ o2) (ha3 : τ.at o3 = some ⟨T_64_uint32,List.map (TV.int .u32) v3⟩) (hi3 : o3 < τ.next) (hn0_2 : o0 ≠ o2) (hn1_2 : o1 ≠ o2) (hn2_3 : o2 ≠ o3) (Q : TEx → TCont) (hQ0 : ∀ (fr : TF) (tk2 : TK) (τ2 : TH),lkp fr 2 = .ptr o0 0 → lkp fr 4 = .ptr o1 0 → lkp fr 5 = .ptr o2 0 → lkp fr 6 = .ptr o3 0 → tk2.take 0 = [] → τ2.cut τ.next = (τ.put o2 ⟨T_64_uint32,List.map (TV.int .u32) r⟩) → Q (.exit 2) fr tk2 τ2) ,tW G (.loop [2,4,5,6,8] l_handselref01_block_2) Q [(2,.ptr o0 0),(4,.ptr o1 0),(5,.ptr o2 0),(6,.ptr o3 0),(8,.int .i64 v4)] [] τ
theorem handselref01_block_f_l2_s (v0 : (List Int)) (v1 : (List Int)) (v3 : (List Int)) (v2 : (List Int)) (v4 : Int) (r : (List Int)) (h : handselref01_block_f_l2 v0 v1 v3 v2 v4 = some r) : handselref01_block_f_l2_P v0 v1 v3 v2 v4 r := by
  refine iterO_ind (f := fun st => handselref01_block_f_l2_step v0 v1 v3 st.1 st.2) (P := fun st r => ∀ (v2 : (List Int)) (v4 : Int),(v2,v4) = st → handselref01_block_f_l2_P v0 v1 v3 v2 v4 r) ?_ h v2 v4 rfl
  clear h r v4 v2
  intro st o h r ih v2 v4 hst τ o0 o1 o2 o3  hl ha0 hi0 ha1 hi1 ha2 hi2 hw2 ha3 hi3 hn0_2 hn1_2 hn2_3 Q hQ0
  subst hst
  have h : handselref01_block_f_l2_step v0 v1 v3 v2 v4 = some o := h
  unfold handselref01_block_f_l2_step at h
  refine tW_lp fun LQ hn hr he => ?_
  by_cases c1 : v4 < (64 : Int)
  · rw [if_pos c1] at h
    obtain ⟨c2,h⟩ := ifS h
    obtain ⟨y3,hy3,h⟩ := ob h
    have f4 := ixL_facts hy3
    have f4a := (f4.2.2 (TV.int .u32)).1
    have f4b := (f4.2.2 (TV.int .u32)).2
    try simp only [CL,MC,Int.reduceToNat] at f4 f4a f4b
    obtain ⟨y5,hy5,h⟩ := ob h
    have k6 := handselref01_turn_f_k y3 (7 : Int) _ hy5
    try simp only [CL,MC,Int.reduceToNat] at k6
    obtain ⟨y7,hy7,h⟩ := ob h
    have k8 := handselref01_turn_f_k y3 (18 : Int) _ hy7
    try simp only [CL,MC,Int.reduceToNat] at k8
    obtain ⟨x9,hx9,h⟩ := ob h
    have f10 := Option.some.inj hx9
    obtain ⟨c11,h⟩ := ifS h
    obtain ⟨y12,hy12,h⟩ := ob h
    have f13 := ixL_facts hy12
    have f13a := (f13.2.2 (TV.int .u32)).1
    have f13b := (f13.2.2 (TV.int .u32)).2
    try simp only [CL,MC,Int.reduceToNat] at f13 f13a f13b
    obtain ⟨y14,hy14,h⟩ := ob h
    have k15 := handselref01_turn_f_k y12 (17 : Int) _ hy14
    try simp only [CL,MC,Int.reduceToNat] at k15
    obtain ⟨y16,hy16,h⟩ := ob h
    have k17 := handselref01_turn_f_k y12 (19 : Int) _ hy16
    try simp only [CL,MC,Int.reduceToNat] at k17
    obtain ⟨x18,hx18,h⟩ := ob h
    have f19 := Option.some.inj hx18
    obtain ⟨c20,h⟩ := ifS h
    obtain ⟨y21,hy21,h⟩ := ob h
    have f22 := ixL_facts hy21
    have f22a := (f22.2.2 (TV.int .u32)).1
    have f22b := (f22.2.2 (TV.int .u32)).2
    try simp only [CL,MC,Int.reduceToNat] at f22 f22a f22b
    obtain ⟨c23,h⟩ := ifS h
    obtain ⟨y24,hy24,h⟩ := ob h
    have f25 := ixL_facts hy24
    have f25a := (f25.2.2 (TV.int .u32)).1
    have f25b := (f25.2.2 (TV.int .u32)).2
    try simp only [CL,MC,Int.reduceToNat] at f25 f25a f25b
    obtain ⟨c26,h⟩ := ifS h
    obtain ⟨c27,h⟩ := ifS h
    have f28 : (List.map (TV.int .u32) v2).set v4.toNat (.int .u32 (IntKind.u32.wrap ((IntKind.u32.wrap ((IntKind.u32.wrap (y21 + x9)) + y24)) + x18))) = List.map (TV.int .u32) (v2.set v4.toNat (IntKind.u32.wrap ((IntKind.u32.wrap ((IntKind.u32.wrap (y21 + x9)) + y24)) + x18))) := setm (enc := (TV.int .u32)) _ _ _
    injection h with h; subst h
    have ih := ih (v2.set v4.toNat (IntKind.u32.wrap ((IntKind.u32.wrap ((IntKind.u32.wrap (y21 + x9)) + y24)) + x18))) (IntKind.i64.wrap (v4 + (1 : Int))) rfl
    unfold handselref01_block_f_l2_P at ih
    simp -implicitDefEqProofs only [l_handselref01_block_2,U_handselref01_block,TT,Ic.t,Ic.ci,Nat.reduceEqDiff,reduceIte,Nat.reduceAdd,Nat.reduceMul,Nat.reduceLT,Nat.reduceLeDiff,Nat.reduceSub,reduceCtorEq,Int.reduceEq,Int.reduceNe,Int.reduceToNat,Int.reduceLT,Int.reduceLE,Int.reduceNeg,hl,ha0,hi0,ha1,hi1,ha2,hi2,hw2,ha3,hi3,nq hn0_2,nq hn1_2,nq hn2_3,c1,c2,f4.1,f4.2.1,f4a,f4b,k6,k8,f10,c11,f13.1,f13.2.1,f13a,f13b,k15,k17,f19,c20,f22.1,f22.2.1,f22a,f22b,c23,f25.1,f25.2.1,f25a,f25b,c26,c27,f28,CL,LTN]
    rw [hn]
    simp -implicitDefEqProofs only [TT,Ic.t,Ic.ci,Nat.reduceEqDiff,reduceIte,Nat.reduceAdd,Nat.reduceMul,Nat.reduceLT,Nat.reduceLeDiff,Nat.reduceSub,reduceCtorEq,Int.reduceEq,Int.reduceNe,Int.reduceToNat,Int.reduceLT,Int.reduceLE,Int.reduceNeg,hl,ha0,hi0,ha1,hi1,ha2,hi2,hw2,ha3,hi3,nq hn0_2,nq hn1_2,nq hn2_3,c1,c2,f4.1,f4.2.1,f4a,f4b,k6,k8,f10,c11,f13.1,f13.2.1,f13a,f13b,k15,k17,f19,c20,f22.1,f22.2.1,f22a,f22b,c23,f25.1,f25.2.1,f25a,f25b,c26,c27,f28,CL,LTN]
    exact ih  (τ.put o2 ⟨T_64_uint32,List.map (TV.int .u32) (v2.set v4.toNat (IntKind.u32.wrap ((IntKind.u32.wrap ((IntKind.u32.wrap (y21 + x9)) + y24)) + x18)))⟩) o0 o1 o2 o3   (by first | assumption | (simp only [next_pt,lock_pt]; assumption)) (by simp -implicitDefEqProofs only [TT,Ic.t,Ic.ci,Nat.reduceEqDiff,reduceIte,Nat.reduceAdd,Nat.reduceMul,Nat.reduceLT,Nat.reduceLeDiff,Nat.reduceSub,reduceCtorEq,Int.reduceEq,Int.reduceNe,Int.reduceToNat,Int.reduceLT,Int.reduceLE,Int.reduceNeg,hl,ha0,hi0,ha1,hi1,ha2,hi2,hw2,ha3,hi3,nq hn0_2,nq hn1_2,nq hn2_3,c1,c2,f4.1,f4.2.1,f4a,f4b,k6,k8,f10,c11,f13.1,f13.2.1,f13a,f13b,k15,k17,f19,c20,f22.1,f22.2.1,f22a,f22b,c23,f25.1,f25.2.1,f25a,f25b,c26,c27,f28,CL,LTN]) (by first | assumption | (simp only [next_pt,lock_pt]; assumption)) (by simp -implicitDefEqProofs only [TT,Ic.t,Ic.ci,Nat.reduceEqDiff,reduceIte,Nat.reduceAdd,Nat.reduceMul,Nat.reduceLT,Nat.reduceLeDiff,Nat.reduceSub,reduceCtorEq,Int.reduceEq,Int.reduceNe,Int.reduceToNat,Int.reduceLT,Int.reduceLE,Int.reduceNeg,hl,ha0,hi0,ha1,hi1,ha2,hi2,hw2,ha3,hi3,nq hn0_2,nq hn1_2,nq hn2_3,c1,c2,f4.1,f4.2.1,f4a,f4b,k6,k8,f10,c11,f13.1,f13.2.1,f13a,f13b,k15,k17,f19,c20,f22.1,f22.2.1,f22a,f22b,c23,f25.1,f25.2.1,f25a,f25b,c26,c27,f28,CL,LTN]) (by first | assumption | (simp only [next_pt,lock_pt]; assumption)) (by simp -implicitDefEqProofs only [TT,Ic.t,Ic.ci,Nat.reduceEqDiff,reduceIte,Nat.reduceAdd,Nat.reduceMul,Nat.reduceLT,Nat.reduceLeDiff,Nat.reduceSub,reduceCtorEq,Int.reduceEq,Int.reduceNe,Int.reduceToNat,Int.reduceLT,Int.reduceLE,Int.reduceNeg,hl,ha0,hi0,ha1,hi1,ha2,hi2,hw2,ha3,hi3,nq hn0_2,nq hn1_2,nq hn2_3,c1,c2,f4.1,f4.2.1,f4a,f4b,k6,k8,f10,c11,f13.1,f13.2.1,f13a,f13b,k15,k17,f19,c20,f22.1,f22.2.1,f22a,f22b,c23,f25.1,f25.2.1,f25a,f25b,c26,c27,f28,CL,LTN]) (by first | assumption | (simp only [next_pt,lock_pt]; assumption)) (by first | assumption | (simp only [next_pt,lock_pt]; assumption)) (by simp -implicitDefEqProofs only [TT,Ic.t,Ic.ci,Nat.reduceEqDiff,reduceIte,Nat.reduceAdd,Nat.reduceMul,Nat.reduceLT,Nat.reduceLeDiff,Nat.reduceSub,reduceCtorEq,Int.reduceEq,Int.reduceNe,Int.reduceToNat,Int.reduceLT,Int.reduceLE,Int.reduceNeg,hl,ha0,hi0,ha1,hi1,ha2,hi2,hw2,ha3,hi3,nq hn0_2,nq hn1_2,nq hn2_3,c1,c2,f4.1,f4.2.1,f4a,f4b,k6,k8,f10,c11,f13.1,f13.2.1,f13a,f13b,k15,k17,f19,c20,f22.1,f22.2.1,f22a,f22b,c23,f25.1,f25.2.1,f25a,f25b,c26,c27,f28,CL,LTN]) (by first | assumption | (simp only [next_pt,lock_pt]; assumption)) hn0_2 hn1_2 hn2_3 Q (fun fr tk2 τ2 g0 g1 g2 g3 ht hτ => hQ0 fr tk2 τ2 g0 g1 g2 g3 ht (by first | exact hτ | simpa only [next_pt,pt_pt,hl,ha0,hi0,ha1,hi1,ha2,hi2,hw2,ha3,hi3,nq hn0_2,nq hn1_2,nq hn2_3] using hτ))
  rw [if_neg c1] at h
  injection h with h; subst h
  obtain rfl : _ = r := ih
  simp -implicitDefEqProofs only [l_handselref01_block_2,U_handselref01_block,TT,Ic.t,Ic.ci,Nat.reduceEqDiff,reduceIte,Nat.reduceAdd,Nat.reduceMul,Nat.reduceLT,Nat.reduceLeDiff,Nat.reduceSub,reduceCtorEq,Int.reduceEq,Int.reduceNe,Int.reduceToNat,Int.reduceLT,Int.reduceLE,Int.reduceNeg,hl,ha0,hi0,ha1,hi1,ha2,hi2,hw2,ha3,hi3,nq hn0_2,nq hn1_2,nq hn2_3,he,hr,c1,CL,LTN]
  exact hQ0  _ _ _  (by first | rfl | (simp -implicitDefEqProofs only [TT,Ic.t,Ic.ci,Nat.reduceEqDiff,reduceIte,Nat.reduceAdd,Nat.reduceMul,Nat.reduceLT,Nat.reduceLeDiff,Nat.reduceSub,reduceCtorEq,Int.reduceEq,Int.reduceNe,Int.reduceToNat,Int.reduceLT,Int.reduceLE,Int.reduceNeg,hl,ha0,hi0,ha1,hi1,ha2,hi2,hw2,ha3,hi3,nq hn0_2,nq hn1_2,nq hn2_3,c1,CL,LTN])) (by first | rfl | (simp -implicitDefEqProofs only [TT,Ic.t,Ic.ci,Nat.reduceEqDiff,reduceIte,Nat.reduceAdd,Nat.reduceMul,Nat.reduceLT,Nat.reduceLeDiff,Nat.reduceSub,reduceCtorEq,Int.reduceEq,Int.reduceNe,Int.reduceToNat,Int.reduceLT,Int.reduceLE,Int.reduceNeg,hl,ha0,hi0,ha1,hi1,ha2,hi2,hw2,ha3,hi3,nq hn0_2,nq hn1_2,nq hn2_3,c1,CL,LTN])) (by first | rfl | (simp -implicitDefEqProofs only [TT,Ic.t,Ic.ci,Nat.reduceEqDiff,reduceIte,Nat.reduceAdd,Nat.reduceMul,Nat.reduceLT,Nat.reduceLeDiff,Nat.reduceSub,reduceCtorEq,Int.reduceEq,Int.reduceNe,Int.reduceToNat,Int.reduceLT,Int.reduceLE,Int.reduceNeg,hl,ha0,hi0,ha1,hi1,ha2,hi2,hw2,ha3,hi3,nq hn0_2,nq hn1_2,nq hn2_3,c1,CL,LTN])) (by first | rfl | (simp -implicitDefEqProofs only [TT,Ic.t,Ic.ci,Nat.reduceEqDiff,reduceIte,Nat.reduceAdd,Nat.reduceMul,Nat.reduceLT,Nat.reduceLeDiff,Nat.reduceSub,reduceCtorEq,Int.reduceEq,Int.reduceNe,Int.reduceToNat,Int.reduceLT,Int.reduceLE,Int.reduceNeg,hl,ha0,hi0,ha1,hi1,ha2,hi2,hw2,ha3,hi3,nq hn0_2,nq hn1_2,nq hn2_3,c1,CL,LTN])) (by first | rfl | (simp -implicitDefEqProofs only [TT,Ic.t,Ic.ci,Nat.reduceEqDiff,reduceIte,Nat.reduceAdd,Nat.reduceMul,Nat.reduceLT,Nat.reduceLeDiff,Nat.reduceSub,reduceCtorEq,Int.reduceEq,Int.reduceNe,Int.reduceToNat,Int.reduceLT,Int.reduceLE,Int.reduceNeg,hl,ha0,hi0,ha1,hi1,ha2,hi2,hw2,ha3,hi3,nq hn0_2,nq hn1_2,nq hn2_3,c1,CL,LTN])) (by first | exact cut_ge (Nat.le_refl _) | (simp -implicitDefEqProofs only [TT,Ic.t,Ic.ci,Nat.reduceEqDiff,reduceIte,Nat.reduceAdd,Nat.reduceMul,Nat.reduceLT,Nat.reduceLeDiff,Nat.reduceSub,reduceCtorEq,Int.reduceEq,Int.reduceNe,Int.reduceToNat,Int.reduceLT,Int.reduceLE,Int.reduceNeg,hl,ha0,hi0,ha1,hi1,ha2,hi2,hw2,ha3,hi3,nq hn0_2,nq hn1_2,nq hn2_3,put_same ha2,c1,CL,LTN]))
noncomputable def handselref01_block_f_l3_step (v0 : (List Int)) (v1 : (List Int)) (v2 : (List Int)) (v3 : (List Int)) (v4 : (List Int)) (v5 : Int) : Option (LS ((List Int) × Int) ((List Int))) :=
  if v5 < (64 : Int) then
    ixL v4 (4 : Int) >>= fun y3 =>
    handselref01_turn_f y3 (6 : Int) >>= fun y7 =>
    handselref01_turn_f y3 (11 : Int) >>= fun y9 =>
    handselref01_turn_f y3 (25 : Int) >>= fun y11 =>
    some (IntKind.u32.wrap ((BitVec.ofInt IntKind.u32.bits (IntKind.u32.wrap ((BitVec.ofInt IntKind.u32.bits y7 ^^^ BitVec.ofInt IntKind.u32.bits y9).toNat : Int)) ^^^ BitVec.ofInt IntKind.u32.bits y11).toNat : Int)) >>= fun x13 =>
    ixL v4 (7 : Int) >>= fun y16 =>
    ixL v4 (5 : Int) >>= fun y20 =>
    ixL v4 (6 : Int) >>= fun y24 =>
    if 0 ≤ v5 ∧ v5 < ((64 : Nat) : Int) then
      ixL v3 v5 >>= fun y27 =>
      ixL v2 v5 >>= fun y29 =>
      some (IntKind.u32.wrap ((IntKind.u32.wrap ((IntKind.u32.wrap ((IntKind.u32.wrap (y16 + x13)) + (IntKind.u32.wrap ((BitVec.ofInt IntKind.u32.bits (IntKind.u32.wrap ((BitVec.ofInt IntKind.u32.bits y3 &&& BitVec.ofInt IntKind.u32.bits y20).toNat : Int)) ^^^ BitVec.ofInt IntKind.u32.bits (IntKind.u32.wrap ((BitVec.ofInt IntKind.u32.bits (notI .u32 y3) &&& BitVec.ofInt IntKind.u32.bits y24).toNat : Int))).toNat : Int)))) + y27)) + y29)) >>= fun x31 =>
      ixL v4 (0 : Int) >>= fun y34 =>
      handselref01_turn_f y34 (2 : Int) >>= fun y38 =>
      handselref01_turn_f y34 (13 : Int) >>= fun y40 =>
      handselref01_turn_f y34 (22 : Int) >>= fun y42 =>
      some (IntKind.u32.wrap ((BitVec.ofInt IntKind.u32.bits (IntKind.u32.wrap ((BitVec.ofInt IntKind.u32.bits y38 ^^^ BitVec.ofInt IntKind.u32.bits y40).toNat : Int)) ^^^ BitVec.ofInt IntKind.u32.bits y42).toNat : Int)) >>= fun x44 =>
      ixL v4 (1 : Int) >>= fun y48 =>
      ixL v4 (2 : Int) >>= fun y52 =>
      some (IntKind.u32.wrap (x44 + (IntKind.u32.wrap ((BitVec.ofInt IntKind.u32.bits (IntKind.u32.wrap ((BitVec.ofInt IntKind.u32.bits (IntKind.u32.wrap ((BitVec.ofInt IntKind.u32.bits y34 &&& BitVec.ofInt IntKind.u32.bits y48).toNat : Int)) ^^^ BitVec.ofInt IntKind.u32.bits (IntKind.u32.wrap ((BitVec.ofInt IntKind.u32.bits y34 &&& BitVec.ofInt IntKind.u32.bits y52).toNat : Int))).toNat : Int)) ^^^ BitVec.ofInt IntKind.u32.bits (IntKind.u32.wrap ((BitVec.ofInt IntKind.u32.bits y48 &&& BitVec.ofInt IntKind.u32.bits y52).toNat : Int))).toNat : Int)))) >>= fun x56 =>
      ixL v4 (3 : Int) >>= fun y62 =>
      if v4.length = 8 then
        some (.nx ([(IntKind.u32.wrap (x31 + x56)),y34,y48,y52,(IntKind.u32.wrap (y62 + x31)),y3,y20,y24],(IntKind.i64.wrap (v5 + (1 : Int)))))
      else
        none
    else
      none
  else
  some (.dn v4)
noncomputable def handselref01_block_f_l3 (v0 : (List Int)) (v1 : (List Int)) (v2 : (List Int)) (v3 : (List Int)) (v4 : (List Int)) (v5 : Int) : Option ((List Int)) := iterO (fun st => handselref01_block_f_l3_step v0 v1 v2 v3 st.1 st.2) (v4,v5)
theorem handselref01_block_f_l3_eq (v0 : (List Int)) (v1 : (List Int)) (v2 : (List Int)) (v3 : (List Int)) (v4 : (List Int)) (v5 : Int) : handselref01_block_f_l3 v0 v1 v2 v3 v4 v5 = handselref01_block_f_l3_step v0 v1 v2 v3 v4 v5 >>= LS.go (fun st => handselref01_block_f_l3 v0 v1 v2 v3 st.1 st.2) := iterO_eq (fun st => handselref01_block_f_l3_step v0 v1 v2 v3 st.1 st.2) (v4,v5)
def handselref01_block_f_l3_P (v0 : (List Int)) (v1 : (List Int)) (v2 : (List Int)) (v3 : (List Int)) (v4 : (List Int)) (v5 : Int) (r : (List Int)) : Prop := ∀ (τ : TH) (o0 : Nat) (o1 : Nat) (o2 : Nat) (o3 : Nat) (o4 : Nat) (hl : τ.lock ≤ τ.next) (ha0 : τ.at o0 = some ⟨T_8_uint32,List.map (TV.int .u32) v0⟩) (hi0 : o0 < τ.next) (ha1 : τ.at o1 = some ⟨T_8_uint32,List.map (TV.int .u32) v1⟩) (hi1 : o1 < τ.next) (ha2 : τ.at o2 = some ⟨T_64_uint32,List.map (TV.int .u32) v2⟩) (hi2 : o2 < τ.next) (ha3 : τ.at o3 = some ⟨T_64_uint32,List.map (TV.int .u32) v3⟩) (hi3 : o3 < τ.next) (ha4 : τ.at o4 = some ⟨T_8_uint32,List.map (TV.int .u32) v4⟩) (hi4 : o4 < τ.next) (hw4 : τ.lock ≤ o4) (hn0_4 : o0 ≠ o4) (hn1_4 : o1 ≠ o4) (hn2_4 : o2 ≠ o4) (hn3_4 : o3 ≠ o4) (Q : TEx → TCont) (hQ0 : ∀ (fr : TF) (tk2 : TK) (τ2 : TH),lkp fr 2 = .ptr o0 0 → lkp fr 4 = .ptr o1 0 → lkp fr 11 = .ptr o4 0 → tk2.take 0 = [] → τ2.cut τ.next = (τ.put o4 ⟨T_8_uint32,List.map (TV.int .u32) r⟩) → Q (.exit 4) fr tk2 τ2) ,tW G (.loop [2,4,5,6,11,12] l_handselref01_block_3) Q [(2,.ptr o0 0),(4,.ptr o1 0),(5,.ptr o2 0),(6,.ptr o3 0),(11,.ptr o4 0),(12,.int .i64 v5)] [] τ
theorem handselref01_block_f_l3_s (v0 : (List Int)) (v1 : (List Int)) (v2 : (List Int)) (v3 : (List Int)) (v4 : (List Int)) (v5 : Int) (r : (List Int)) (h : handselref01_block_f_l3 v0 v1 v2 v3 v4 v5 = some r) : handselref01_block_f_l3_P v0 v1 v2 v3 v4 v5 r := by
  refine iterO_ind (f := fun st => handselref01_block_f_l3_step v0 v1 v2 v3 st.1 st.2) (P := fun st r => ∀ (v4 : (List Int)) (v5 : Int),(v4,v5) = st → handselref01_block_f_l3_P v0 v1 v2 v3 v4 v5 r) ?_ h v4 v5 rfl
  clear h r v5 v4
  intro st o h r ih v4 v5 hst τ o0 o1 o2 o3 o4  hl ha0 hi0 ha1 hi1 ha2 hi2 ha3 hi3 ha4 hi4 hw4 hn0_4 hn1_4 hn2_4 hn3_4 Q hQ0
  subst hst
  have h : handselref01_block_f_l3_step v0 v1 v2 v3 v4 v5 = some o := h
  unfold handselref01_block_f_l3_step at h
  refine tW_lp fun LQ hn hr he => ?_
  by_cases c1 : v5 < (64 : Int)
  · rw [if_pos c1] at h
    have f2 : (4 : Int) < ((8 : Nat) : Int) := by decide
    obtain ⟨y3,hy3,h⟩ := ob h
    have f4 := ixL_facts hy3
    have f4a := (f4.2.2 (TV.int .u32)).1
    have f4b := (f4.2.2 (TV.int .u32)).2
    try simp only [CL,MC,Int.reduceToNat] at f4 f4a f4b
    have f5 : (4 : Int) < ((8 : Nat) : Int) := by decide
    have f6 : (4 : Int) < ((8 : Nat) : Int) := by decide
    obtain ⟨y7,hy7,h⟩ := ob h
    have k8 := handselref01_turn_f_k y3 (6 : Int) _ hy7
    try simp only [CL,MC,Int.reduceToNat] at k8
    obtain ⟨y9,hy9,h⟩ := ob h
    have k10 := handselref01_turn_f_k y3 (11 : Int) _ hy9
    try simp only [CL,MC,Int.reduceToNat] at k10
    obtain ⟨y11,hy11,h⟩ := ob h
    have k12 := handselref01_turn_f_k y3 (25 : Int) _ hy11
    try simp only [CL,MC,Int.reduceToNat] at k12
    obtain ⟨x13,hx13,h⟩ := ob h
    have f14 := Option.some.inj hx13
    have f15 : (7 : Int) < ((8 : Nat) : Int) := by decide
    obtain ⟨y16,hy16,h⟩ := ob h
    have f17 := ixL_facts hy16
    have f17a := (f17.2.2 (TV.int .u32)).1
    have f17b := (f17.2.2 (TV.int .u32)).2
    try simp only [CL,MC,Int.reduceToNat] at f17 f17a f17b
    have f18 : (4 : Int) < ((8 : Nat) : Int) := by decide
    have f19 : (5 : Int) < ((8 : Nat) : Int) := by decide
    obtain ⟨y20,hy20,h⟩ := ob h
    have f21 := ixL_facts hy20
    have f21a := (f21.2.2 (TV.int .u32)).1
    have f21b := (f21.2.2 (TV.int .u32)).2
    try simp only [CL,MC,Int.reduceToNat] at f21 f21a f21b
    have f22 : (4 : Int) < ((8 : Nat) : Int) := by decide
    have f23 : (6 : Int) < ((8 : Nat) : Int) := by decide
    obtain ⟨y24,hy24,h⟩ := ob h
    have f25 := ixL_facts hy24
    have f25a := (f25.2.2 (TV.int .u32)).1
    have f25b := (f25.2.2 (TV.int .u32)).2
    try simp only [CL,MC,Int.reduceToNat] at f25 f25a f25b
    obtain ⟨c26,h⟩ := ifS h
    obtain ⟨y27,hy27,h⟩ := ob h
    have f28 := ixL_facts hy27
    have f28a := (f28.2.2 (TV.int .u32)).1
    have f28b := (f28.2.2 (TV.int .u32)).2
    try simp only [CL,MC,Int.reduceToNat] at f28 f28a f28b
    obtain ⟨y29,hy29,h⟩ := ob h
    have f30 := ixL_facts hy29
    have f30a := (f30.2.2 (TV.int .u32)).1
    have f30b := (f30.2.2 (TV.int .u32)).2
    try simp only [CL,MC,Int.reduceToNat] at f30 f30a f30b
    obtain ⟨x31,hx31,h⟩ := ob h
    have f32 := Option.some.inj hx31
    have f33 : (0 : Int) < ((8 : Nat) : Int) := by decide
    obtain ⟨y34,hy34,h⟩ := ob h
    have f35 := ixL_facts hy34
    have f35a := (f35.2.2 (TV.int .u32)).1
    have f35b := (f35.2.2 (TV.int .u32)).2
    try simp only [CL,MC,Int.reduceToNat] at f35 f35a f35b
    have f36 : (0 : Int) < ((8 : Nat) : Int) := by decide
    have f37 : (0 : Int) < ((8 : Nat) : Int) := by decide
    obtain ⟨y38,hy38,h⟩ := ob h
    have k39 := handselref01_turn_f_k y34 (2 : Int) _ hy38
    try simp only [CL,MC,Int.reduceToNat] at k39
    obtain ⟨y40,hy40,h⟩ := ob h
    have k41 := handselref01_turn_f_k y34 (13 : Int) _ hy40
    try simp only [CL,MC,Int.reduceToNat] at k41
    obtain ⟨y42,hy42,h⟩ := ob h
    have k43 := handselref01_turn_f_k y34 (22 : Int) _ hy42
    try simp only [CL,MC,Int.reduceToNat] at k43
    obtain ⟨x44,hx44,h⟩ := ob h
    have f45 := Option.some.inj hx44
    have f46 : (0 : Int) < ((8 : Nat) : Int) := by decide
    have f47 : (1 : Int) < ((8 : Nat) : Int) := by decide
    obtain ⟨y48,hy48,h⟩ := ob h
    have f49 := ixL_facts hy48
    have f49a := (f49.2.2 (TV.int .u32)).1
    have f49b := (f49.2.2 (TV.int .u32)).2
    try simp only [CL,MC,Int.reduceToNat] at f49 f49a f49b
    have f50 : (0 : Int) < ((8 : Nat) : Int) := by decide
    have f51 : (2 : Int) < ((8 : Nat) : Int) := by decide
    obtain ⟨y52,hy52,h⟩ := ob h
    have f53 := ixL_facts hy52
    have f53a := (f53.2.2 (TV.int .u32)).1
    have f53b := (f53.2.2 (TV.int .u32)).2
    try simp only [CL,MC,Int.reduceToNat] at f53 f53a f53b
    have f54 : (1 : Int) < ((8 : Nat) : Int) := by decide
    have f55 : (2 : Int) < ((8 : Nat) : Int) := by decide
    obtain ⟨x56,hx56,h⟩ := ob h
    have f57 := Option.some.inj hx56
    have f58 : (0 : Int) < ((8 : Nat) : Int) := by decide
    have f59 : (1 : Int) < ((8 : Nat) : Int) := by decide
    have f60 : (2 : Int) < ((8 : Nat) : Int) := by decide
    have f61 : (3 : Int) < ((8 : Nat) : Int) := by decide
    obtain ⟨y62,hy62,h⟩ := ob h
    have f63 := ixL_facts hy62
    have f63a := (f63.2.2 (TV.int .u32)).1
    have f63b := (f63.2.2 (TV.int .u32)).2
    try simp only [CL,MC,Int.reduceToNat] at f63 f63a f63b
    have f64 : (4 : Int) < ((8 : Nat) : Int) := by decide
    have f65 : (5 : Int) < ((8 : Nat) : Int) := by decide
    have f66 : (6 : Int) < ((8 : Nat) : Int) := by decide
    obtain ⟨c67,h⟩ := ifS h
    have f68 := tset_all (enc := (TV.int .u32)) (cs := List.map (TV.int .u32) v4) (l := [(IntKind.u32.wrap (x31 + x56)),y34,y48,y52,(IntKind.u32.wrap (y62 + x31)),y3,y20,y24]) (by simp [c67])
    simp only [List.map_cons,List.map_nil,tset_cons,tset_nil,Nat.zero_add,Nat.reduceAdd] at f68
    have f68b := Nat.le_of_eq (Eq.symm c67)
    have f69 : 8 ≤ v4.length := Nat.le_of_eq (Eq.symm c67)
    injection h with h; subst h
    have ih := ih [(IntKind.u32.wrap (x31 + x56)),y34,y48,y52,(IntKind.u32.wrap (y62 + x31)),y3,y20,y24] (IntKind.i64.wrap (v5 + (1 : Int))) rfl
    unfold handselref01_block_f_l3_P at ih
    simp -implicitDefEqProofs only [l_handselref01_block_3,U_handselref01_block,TT,Ic.t,Ic.ci,Nat.reduceEqDiff,reduceIte,Nat.reduceAdd,Nat.reduceMul,Nat.reduceLT,Nat.reduceLeDiff,Nat.reduceSub,reduceCtorEq,Int.reduceEq,Int.reduceNe,Int.reduceToNat,Int.reduceLT,Int.reduceLE,Int.reduceNeg,hl,ha0,hi0,ha1,hi1,ha2,hi2,ha3,hi3,ha4,hi4,hw4,nq hn0_4,nq hn1_4,nq hn2_4,nq hn3_4,c1,f2,f4.1,f4.2.1,f4a,f4b,f5,f6,k8,k10,k12,f14,f15,f17.1,f17.2.1,f17a,f17b,f18,f19,f21.1,f21.2.1,f21a,f21b,f22,f23,f25.1,f25.2.1,f25a,f25b,c26,f28.1,f28.2.1,f28a,f28b,f30.1,f30.2.1,f30a,f30b,f32,f33,f35.1,f35.2.1,f35a,f35b,f36,f37,k39,k41,k43,f45,f46,f47,f49.1,f49.2.1,f49a,f49b,f50,f51,f53.1,f53.2.1,f53a,f53b,f54,f55,f57,f58,f59,f60,f61,f63.1,f63.2.1,f63a,f63b,f64,f65,f66,c67,f68,f68b,f69,CL,LTN]
    rw [hn]
    simp -implicitDefEqProofs only [TT,Ic.t,Ic.ci,Nat.reduceEqDiff,reduceIte,Nat.reduceAdd,Nat.reduceMul,Nat.reduceLT,Nat.reduceLeDiff,Nat.reduceSub,reduceCtorEq,Int.reduceEq,Int.reduceNe,Int.reduceToNat,Int.reduceLT,Int.reduceLE,Int.reduceNeg,hl,ha0,hi0,ha1,hi1,ha2,hi2,ha3,hi3,ha4,hi4,hw4,nq hn0_4,nq hn1_4,nq hn2_4,nq hn3_4,c1,f2,f4.1,f4.2.1,f4a,f4b,f5,f6,k8,k10,k12,f14,f15,f17.1,f17.2.1,f17a,f17b,f18,f19,f21.1,f21.2.1,f21a,f21b,f22,f23,f25.1,f25.2.1,f25a,f25b,c26,f28.1,f28.2.1,f28a,f28b,f30.1,f30.2.1,f30a,f30b,f32,f33,f35.1,f35.2.1,f35a,f35b,f36,f37,k39,k41,k43,f45,f46,f47,f49.1,f49.2.1,f49a,f49b,f50,f51,f53.1,f53.2.1,f53a,f53b,f54,f55,f57,f58,f59,f60,f61,f63.1,f63.2.1,f63a,f63b,f64,f65,f66,c67,f68,f68b,f69,CL,LTN]
    exact ih  (τ.put o4 ⟨T_8_uint32,List.map (TV.int .u32) [(IntKind.u32.wrap (x31 + x56)),y34,y48,y52,(IntKind.u32.wrap (y62 + x31)),y3,y20,y24]⟩) o0 o1 o2 o3 o4   (by first | assumption | (simp only [next_pt,lock_pt]; assumption)) (by simp -implicitDefEqProofs only [TT,Ic.t,Ic.ci,Nat.reduceEqDiff,reduceIte,Nat.reduceAdd,Nat.reduceMul,Nat.reduceLT,Nat.reduceLeDiff,Nat.reduceSub,reduceCtorEq,Int.reduceEq,Int.reduceNe,Int.reduceToNat,Int.reduceLT,Int.reduceLE,Int.reduceNeg,hl,ha0,hi0,ha1,hi1,ha2,hi2,ha3,hi3,ha4,hi4,hw4,nq hn0_4,nq hn1_4,nq hn2_4,nq hn3_4,c1,f2,f4.1,f4.2.1,f4a,f4b,f5,f6,k8,k10,k12,f14,f15,f17.1,f17.2.1,f17a,f17b,f18,f19,f21.1,f21.2.1,f21a,f21b,f22,f23,f25.1,f25.2.1,f25a,f25b,c26,f28.1,f28.2.1,f28a,f28b,f30.1,f30.2.1,f30a,f30b,f32,f33,f35.1,f35.2.1,f35a,f35b,f36,f37,k39,k41,k43,f45,f46,f47,f49.1,f49.2.1,f49a,f49b,f50,f51,f53.1,f53.2.1,f53a,f53b,f54,f55,f57,f58,f59,f60,f61,f63.1,f63.2.1,f63a,f63b,f64,f65,f66,c67,f68,f68b,f69,CL,LTN]) (by first | assumption | (simp only [next_pt,lock_pt]; assumption)) (by simp -implicitDefEqProofs only [TT,Ic.t,Ic.ci,Nat.reduceEqDiff,reduceIte,Nat.reduceAdd,Nat.reduceMul,Nat.reduceLT,Nat.reduceLeDiff,Nat.reduceSub,reduceCtorEq,Int.reduceEq,Int.reduceNe,Int.reduceToNat,Int.reduceLT,Int.reduceLE,Int.reduceNeg,hl,ha0,hi0,ha1,hi1,ha2,hi2,ha3,hi3,ha4,hi4,hw4,nq hn0_4,nq hn1_4,nq hn2_4,nq hn3_4,c1,f2,f4.1,f4.2.1,f4a,f4b,f5,f6,k8,k10,k12,f14,f15,f17.1,f17.2.1,f17a,f17b,f18,f19,f21.1,f21.2.1,f21a,f21b,f22,f23,f25.1,f25.2.1,f25a,f25b,c26,f28.1,f28.2.1,f28a,f28b,f30.1,f30.2.1,f30a,f30b,f32,f33,f35.1,f35.2.1,f35a,f35b,f36,f37,k39,k41,k43,f45,f46,f47,f49.1,f49.2.1,f49a,f49b,f50,f51,f53.1,f53.2.1,f53a,f53b,f54,f55,f57,f58,f59,f60,f61,f63.1,f63.2.1,f63a,f63b,f64,f65,f66,c67,f68,f68b,f69,CL,LTN]) (by first | assumption | (simp only [next_pt,lock_pt]; assumption)) (by simp -implicitDefEqProofs only [TT,Ic.t,Ic.ci,Nat.reduceEqDiff,reduceIte,Nat.reduceAdd,Nat.reduceMul,Nat.reduceLT,Nat.reduceLeDiff,Nat.reduceSub,reduceCtorEq,Int.reduceEq,Int.reduceNe,Int.reduceToNat,Int.reduceLT,Int.reduceLE,Int.reduceNeg,hl,ha0,hi0,ha1,hi1,ha2,hi2,ha3,hi3,ha4,hi4,hw4,nq hn0_4,nq hn1_4,nq hn2_4,nq hn3_4,c1,f2,f4.1,f4.2.1,f4a,f4b,f5,f6,k8,k10,k12,f14,f15,f17.1,f17.2.1,f17a,f17b,f18,f19,f21.1,f21.2.1,f21a,f21b,f22,f23,f25.1,f25.2.1,f25a,f25b,c26,f28.1,f28.2.1,f28a,f28b,f30.1,f30.2.1,f30a,f30b,f32,f33,f35.1,f35.2.1,f35a,f35b,f36,f37,k39,k41,k43,f45,f46,f47,f49.1,f49.2.1,f49a,f49b,f50,f51,f53.1,f53.2.1,f53a,f53b,f54,f55,f57,f58,f59,f60,f61,f63.1,f63.2.1,f63a,f63b,f64,f65,f66,c67,f68,f68b,f69,CL,LTN]) (by first | assumption | (simp only [next_pt,lock_pt]; assumption)) (by simp -implicitDefEqProofs only [TT,Ic.t,Ic.ci,Nat.reduceEqDiff,reduceIte,Nat.reduceAdd,Nat.reduceMul,Nat.reduceLT,Nat.reduceLeDiff,Nat.reduceSub,reduceCtorEq,Int.reduceEq,Int.reduceNe,Int.reduceToNat,Int.reduceLT,Int.reduceLE,Int.reduceNeg,hl,ha0,hi0,ha1,hi1,ha2,hi2,ha3,hi3,ha4,hi4,hw4,nq hn0_4,nq hn1_4,nq hn2_4,nq hn3_4,c1,f2,f4.1,f4.2.1,f4a,f4b,f5,f6,k8,k10,k12,f14,f15,f17.1,f17.2.1,f17a,f17b,f18,f19,f21.1,f21.2.1,f21a,f21b,f22,f23,f25.1,f25.2.1,f25a,f25b,c26,f28.1,f28.2.1,f28a,f28b,f30.1,f30.2.1,f30a,f30b,f32,f33,f35.1,f35.2.1,f35a,f35b,f36,f37,k39,k41,k43,f45,f46,f47,f49.1,f49.2.1,f49a,f49b,f50,f51,f53.1,f53.2.1,f53a,f53b,f54,f55,f57,f58,f59,f60,f61,f63.1,f63.2.1,f63a,f63b,f64,f65,f66,c67,f68,f68b,f69,CL,LTN]) (by first | assumption | (simp only [next_pt,lock_pt]; assumption)) (by simp -implicitDefEqProofs only [TT,Ic.t,Ic.ci,Nat.reduceEqDiff,reduceIte,Nat.reduceAdd,Nat.reduceMul,Nat.reduceLT,Nat.reduceLeDiff,Nat.reduceSub,reduceCtorEq,Int.reduceEq,Int.reduceNe,Int.reduceToNat,Int.reduceLT,Int.reduceLE,Int.reduceNeg,hl,ha0,hi0,ha1,hi1,ha2,hi2,ha3,hi3,ha4,hi4,hw4,nq hn0_4,nq hn1_4,nq hn2_4,nq hn3_4,c1,f2,f4.1,f4.2.1,f4a,f4b,f5,f6,k8,k10,k12,f14,f15,f17.1,f17.2.1,f17a,f17b,f18,f19,f21.1,f21.2.1,f21a,f21b,f22,f23,f25.1,f25.2.1,f25a,f25b,c26,f28.1,f28.2.1,f28a,f28b,f30.1,f30.2.1,f30a,f30b,f32,f33,f35.1,f35.2.1,f35a,f35b,f36,f37,k39,k41,k43,f45,f46,f47,f49.1,f49.2.1,f49a,f49b,f50,f51,f53.1,f53.2.1,f53a,f53b,f54,f55,f57,f58,f59,f60,f61,f63.1,f63.2.1,f63a,f63b,f64,f65,f66,c67,f68,f68b,f69,CL,LTN]) (by first | assumption | (simp only [next_pt,lock_pt]; assumption)) (by first | assumption | (simp only [next_pt,lock_pt]; assumption)) hn0_4 hn1_4 hn2_4 hn3_4 Q (fun fr tk2 τ2 g0 g1 g2 ht hτ => hQ0 fr tk2 τ2 g0 g1 g2 ht (by first | exact hτ | simpa only [next_pt,pt_pt,hl,ha0,hi0,ha1,hi1,ha2,hi2,ha3,hi3,ha4,hi4,hw4,nq hn0_4,nq hn1_4,nq hn2_4,nq hn3_4] using hτ))
  rw [if_neg c1] at h
  injection h with h; subst h
  obtain rfl : _ = r := ih
  simp -implicitDefEqProofs only [l_handselref01_block_3,U_handselref01_block,TT,Ic.t,Ic.ci,Nat.reduceEqDiff,reduceIte,Nat.reduceAdd,Nat.reduceMul,Nat.reduceLT,Nat.reduceLeDiff,Nat.reduceSub,reduceCtorEq,Int.reduceEq,Int.reduceNe,Int.reduceToNat,Int.reduceLT,Int.reduceLE,Int.reduceNeg,hl,ha0,hi0,ha1,hi1,ha2,hi2,ha3,hi3,ha4,hi4,hw4,nq hn0_4,nq hn1_4,nq hn2_4,nq hn3_4,he,hr,c1,CL,LTN]
  exact hQ0  _ _ _  (by first | rfl | (simp -implicitDefEqProofs only [TT,Ic.t,Ic.ci,Nat.reduceEqDiff,reduceIte,Nat.reduceAdd,Nat.reduceMul,Nat.reduceLT,Nat.reduceLeDiff,Nat.reduceSub,reduceCtorEq,Int.reduceEq,Int.reduceNe,Int.reduceToNat,Int.reduceLT,Int.reduceLE,Int.reduceNeg,hl,ha0,hi0,ha1,hi1,ha2,hi2,ha3,hi3,ha4,hi4,hw4,nq hn0_4,nq hn1_4,nq hn2_4,nq hn3_4,c1,CL,LTN])) (by first | rfl | (simp -implicitDefEqProofs only [TT,Ic.t,Ic.ci,Nat.reduceEqDiff,reduceIte,Nat.reduceAdd,Nat.reduceMul,Nat.reduceLT,Nat.reduceLeDiff,Nat.reduceSub,reduceCtorEq,Int.reduceEq,Int.reduceNe,Int.reduceToNat,Int.reduceLT,Int.reduceLE,Int.reduceNeg,hl,ha0,hi0,ha1,hi1,ha2,hi2,ha3,hi3,ha4,hi4,hw4,nq hn0_4,nq hn1_4,nq hn2_4,nq hn3_4,c1,CL,LTN])) (by first | rfl | (simp -implicitDefEqProofs only [TT,Ic.t,Ic.ci,Nat.reduceEqDiff,reduceIte,Nat.reduceAdd,Nat.reduceMul,Nat.reduceLT,Nat.reduceLeDiff,Nat.reduceSub,reduceCtorEq,Int.reduceEq,Int.reduceNe,Int.reduceToNat,Int.reduceLT,Int.reduceLE,Int.reduceNeg,hl,ha0,hi0,ha1,hi1,ha2,hi2,ha3,hi3,ha4,hi4,hw4,nq hn0_4,nq hn1_4,nq hn2_4,nq hn3_4,c1,CL,LTN])) (by first | rfl | (simp -implicitDefEqProofs only [TT,Ic.t,Ic.ci,Nat.reduceEqDiff,reduceIte,Nat.reduceAdd,Nat.reduceMul,Nat.reduceLT,Nat.reduceLeDiff,Nat.reduceSub,reduceCtorEq,Int.reduceEq,Int.reduceNe,Int.reduceToNat,Int.reduceLT,Int.reduceLE,Int.reduceNeg,hl,ha0,hi0,ha1,hi1,ha2,hi2,ha3,hi3,ha4,hi4,hw4,nq hn0_4,nq hn1_4,nq hn2_4,nq hn3_4,c1,CL,LTN])) (by first | exact cut_ge (Nat.le_refl _) | (simp -implicitDefEqProofs only [TT,Ic.t,Ic.ci,Nat.reduceEqDiff,reduceIte,Nat.reduceAdd,Nat.reduceMul,Nat.reduceLT,Nat.reduceLeDiff,Nat.reduceSub,reduceCtorEq,Int.reduceEq,Int.reduceNe,Int.reduceToNat,Int.reduceLT,Int.reduceLE,Int.reduceNeg,hl,ha0,hi0,ha1,hi1,ha2,hi2,ha3,hi3,ha4,hi4,hw4,nq hn0_4,nq hn1_4,nq hn2_4,nq hn3_4,put_same ha4,c1,CL,LTN]))
end Go.Proofs.Ytnimkejbeogciaa
