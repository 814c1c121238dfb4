/- Functions of numbers and lists, printed by a program of ours out of the code for the tree level, with their proofs. -/
import Derived.Test.YtdcfoaafkppojaaHRing
set_option linter.unusedVariables false
set_option linter.unusedSimpArgs false
set_option linter.unusedSectionVars false
namespace Go.Proofs.Ytdcfoaafkppojaa
open Go Go.RowKit Sh Ic
noncomputable def m5  : Option Bool :=
 zf (3 : Int) (10 : Int) (5 : Int) >>= fun y1 =>
 mb y1 >>= fun y3 =>
 if ((y3.length : Nat) : Int) = (3 : Int) then
  ixL y3 (0 : Int) >>= fun y6 =>
  if y6 = (25 : Int) then
   ixL y3 (2 : Int) >>= fun y9 =>
   if y9 = (35 : Int) then
    ql y1 >>= fun y12 =>
    if y12 = (40 : Int) then
     ph y1 >>= fun y15 =>
     if y15 = (35 : Int) then
      fx y1 (2 : Int) >>= fun y18 =>
      if y18 = (30 : Int) then
       ql (⟨(⟨#[]⟩ : ByteArray),[],[],[],[],(0 : Int),(0 : Int)⟩ : aa) >>= fun y21 =>
       some (decide (y21 = (0 : Int)))
      else
      some false
     else
     some false
    else
    some false
   else
   some false
  else
  some false
 else
 some false
theorem zak7  (r : Bool) (h : m5  = some r) (τ : TH) (hl : τ.lock ≤ τ.next) : Ru G qk [] τ (.bool r) τ := by
  refine jk fun K hK => ?_
  rw [b7 za19 (Nat.le_of_ble_eq_true rfl)]
  unfold m5 at h
  obtain ⟨y1,hy1,h⟩ := ob h
  have k2 := za0w (3 : Int) (10 : Int) (5 : Int) _ hy1
  try simp only [CL,MC,Int.reduceToNat] at k2
  obtain ⟨y3,hy3,h⟩ := ob h
  have k4 := zae0 y1 _ hy3
  try simp only [CL,MC,Int.reduceToNat] at k4
  by_cases c5 : ((y3.length : Nat) : Int) = (3 : Int)
  · rw [if_pos c5] at h
    obtain ⟨y6,hy6,h⟩ := ob h
    have f7 := a9 hy6
    have f7a := (f7.2.2 (TV.int .i64)).1
    have f7b := (f7.2.2 (TV.int .i64)).2
    try simp only [CL,MC,Int.reduceToNat] at f7 f7a f7b
    by_cases c8 : y6 = (25 : Int)
    · rw [if_pos c8] at h
      obtain ⟨y9,hy9,h⟩ := ob h
      have f10 := a9 hy9
      have f10a := (f10.2.2 (TV.int .i64)).1
      have f10b := (f10.2.2 (TV.int .i64)).2
      try simp only [CL,MC,Int.reduceToNat] at f10 f10a f10b
      by_cases c11 : y9 = (35 : Int)
      · rw [if_pos c11] at h
        obtain ⟨y12,hy12,h⟩ := ob h
        have k13 := zab6 y1 _ hy12
        try simp only [CL,MC,Int.reduceToNat] at k13
        by_cases c14 : y12 = (40 : Int)
        · rw [if_pos c14] at h
          obtain ⟨y15,hy15,h⟩ := ob h
          have k16 := zaia y1 _ hy15
          try simp only [CL,MC,Int.reduceToNat] at k16
          by_cases c17 : y15 = (35 : Int)
          · rw [if_pos c17] at h
            obtain ⟨y18,hy18,h⟩ := ob h
            have k19 := ng y1 (2 : Int) _ hy18
            try simp only [CL,MC,Int.reduceToNat] at k19
            by_cases c20 : y18 = (30 : Int)
            · rw [if_pos c20] at h
              obtain ⟨y21,hy21,h⟩ := ob h
              have k22 := zab6 (⟨(⟨#[]⟩ : ByteArray),[],[],[],[],(0 : Int),(0 : Int)⟩ : aa) _ hy21
              try simp only [CL,MC,Int.reduceToNat] at k22
              injection h with h; subst h
              simp -implicitDefEqProofs only [qb,TT,Ic.t,Ic.ci,Nat.reduceEqDiff,reduceIte,Nat.reduceAdd,Nat.reduceLT,reduceCtorEq,Int.reduceToNat,hl,k2,k4,eq_true c5,f7.1,f7.2.1,f7a,f7b,eq_true c8,f10.1,f10.2.1,f10a,f10b,eq_true c11,k13,eq_true c14,k16,eq_true c17,k19,eq_true c20,k22,CL,LTN]
              exact hK
            rw [if_neg c20] at h
            injection h with h; subst h
            simp -implicitDefEqProofs only [qb,TT,Ic.t,Ic.ci,Nat.reduceEqDiff,reduceIte,Nat.reduceAdd,Nat.reduceLT,reduceCtorEq,Int.reduceToNat,hl,k2,k4,eq_true c5,f7.1,f7.2.1,f7a,f7b,eq_true c8,f10.1,f10.2.1,f10a,f10b,eq_true c11,k13,eq_true c14,k16,eq_true c17,k19,c20,CL,LTN]
            exact hK
          rw [if_neg c17] at h
          injection h with h; subst h
          simp -implicitDefEqProofs only [qb,TT,Ic.t,Ic.ci,Nat.reduceEqDiff,reduceIte,Nat.reduceAdd,Nat.reduceLT,reduceCtorEq,Int.reduceToNat,hl,k2,k4,eq_true c5,f7.1,f7.2.1,f7a,f7b,eq_true c8,f10.1,f10.2.1,f10a,f10b,eq_true c11,k13,eq_true c14,k16,c17,CL,LTN]
          exact hK
        rw [if_neg c14] at h
        injection h with h; subst h
        simp -implicitDefEqProofs only [qb,TT,Ic.t,Ic.ci,Nat.reduceEqDiff,reduceIte,Nat.reduceAdd,Nat.reduceLT,reduceCtorEq,Int.reduceToNat,hl,k2,k4,eq_true c5,f7.1,f7.2.1,f7a,f7b,eq_true c8,f10.1,f10.2.1,f10a,f10b,eq_true c11,k13,c14,CL,LTN]
        exact hK
      rw [if_neg c11] at h
      injection h with h; subst h
      simp -implicitDefEqProofs only [qb,TT,Ic.t,Ic.ci,Nat.reduceEqDiff,reduceIte,Nat.reduceAdd,Nat.reduceLT,reduceCtorEq,Int.reduceToNat,hl,k2,k4,eq_true c5,f7.1,f7.2.1,f7a,f7b,eq_true c8,f10.1,f10.2.1,f10a,f10b,c11,CL,LTN]
      exact hK
    rw [if_neg c8] at h
    injection h with h; subst h
    simp -implicitDefEqProofs only [qb,TT,Ic.t,Ic.ci,Nat.reduceEqDiff,reduceIte,Nat.reduceAdd,Nat.reduceLT,reduceCtorEq,Int.reduceToNat,hl,k2,k4,eq_true c5,f7.1,f7.2.1,f7a,f7b,c8,CL,LTN]
    exact hK
  rw [if_neg c5] at h
  injection h with h; subst h
  simp -implicitDefEqProofs only [qb,TT,Ic.t,Ic.ci,Nat.reduceEqDiff,reduceIte,Nat.reduceAdd,Nat.reduceLT,reduceCtorEq,Int.reduceToNat,hl,k2,k4,c5,CL,LTN]
  exact hK
theorem zak8  (r : Bool) (h : m5  = some r) (lk : Bool) (d : Option Nat) (K : au) (fr : TF) (tk : TK) (τ : TH) (hl : τ.lock ≤ τ.next) : fv G lk qk [] d K fr tk τ = K (fu fr d (.bool r)) tk τ :=
  aw (zak7  r h τ  hl) (zak7  r h (τ.locked τ.next)  (Nat.le_refl _) ) (by simp -implicitDefEqProofs only [TT,Ic.t,Ic.ci,Nat.reduceEqDiff,reduceIte,Nat.reduceAdd,Nat.reduceLT,reduceCtorEq,Int.reduceToNat,hl,CL,LTN])
noncomputable def ry (p1 : aa) (p2 : Int) : Option Bool :=
 kf p1 >>= fun y1 =>
 if y1 = true then
  fx p1 p2 >>= fun y4 =>
  ij p1 p2 >>= fun y6 =>
  if y4 = y6 then
   ph p1 >>= fun y9 =>
   uu p1 >>= fun y11 =>
   if y9 = y11 then
    ql p1 >>= fun y14 =>
    y0 p1 >>= fun y16 =>
    if y14 = y16 then
     mb p1 >>= fun y19 =>
     ss p1 >>= fun y21 =>
     kl y19 y21 >>= fun y23 =>
     if y23 = true then
      m5 >>= fun y26 =>
      some y26
     else
     some false
    else
    some false
   else
   some false
  else
  some false
 else
 m5 >>= fun y28 =>
 some y28
theorem vu (p1 : aa) (p2 : Int) (r : Bool) (h : ry p1 p2 = some r) (τ : TH) (hl : τ.lock ≤ τ.next) : Ru G ny [.agg [.str p1.ID,.sl (List.map ac.tv p1.Parties),.sl (List.map af.tv p1.Arcs),.sl (List.map (TV.int .i64) p1.Leaders),.sl (List.map TV.str p1.Locks),.int .i64 p1.Start,.int .i64 p1.Delta],.int .i64 p2] τ (.bool r) τ := by
  refine jk fun K hK => ?_
  rw [b7 zavi (Nat.le_of_ble_eq_true rfl)]
  unfold ry at h
  obtain ⟨y1,hy1,h⟩ := ob h
  have k2 := zarv p1 _ hy1
  try simp only [CL,MC,Int.reduceToNat] at k2
  by_cases c3 : y1 = true
  · rw [if_pos c3] at h
    obtain ⟨y4,hy4,h⟩ := ob h
    have k5 := ng p1 p2 _ hy4
    try simp only [CL,MC,Int.reduceToNat] at k5
    obtain ⟨y6,hy6,h⟩ := ob h
    have k7 := t9 p1 p2 _ hy6
    try simp only [CL,MC,Int.reduceToNat] at k7
    by_cases c8 : y4 = y6
    · rw [if_pos c8] at h
      obtain ⟨y9,hy9,h⟩ := ob h
      have k10 := zaia p1 _ hy9
      try simp only [CL,MC,Int.reduceToNat] at k10
      obtain ⟨y11,hy11,h⟩ := ob h
      have k12 := za0s p1 _ hy11
      try simp only [CL,MC,Int.reduceToNat] at k12
      by_cases c13 : y9 = y11
      · rw [if_pos c13] at h
        obtain ⟨y14,hy14,h⟩ := ob h
        have k15 := zab6 p1 _ hy14
        try simp only [CL,MC,Int.reduceToNat] at k15
        obtain ⟨y16,hy16,h⟩ := ob h
        have k17 := za2y p1 _ hy16
        try simp only [CL,MC,Int.reduceToNat] at k17
        by_cases c18 : y14 = y16
        · rw [if_pos c18] at h
          obtain ⟨y19,hy19,h⟩ := ob h
          have k20 := zae0 p1 _ hy19
          try simp only [CL,MC,Int.reduceToNat] at k20
          obtain ⟨y21,hy21,h⟩ := ob h
          have k22 := zav6 p1 _ hy21
          try simp only [CL,MC,Int.reduceToNat] at k22
          obtain ⟨y23,hy23,h⟩ := ob h
          have k24 := zaoj y19 y21 _ hy23
          try simp only [CL,MC,Int.reduceToNat] at k24
          by_cases c25 : y23 = true
          · rw [if_pos c25] at h
            obtain ⟨y26,hy26,h⟩ := ob h
            have k27 := zak8  _ hy26
            try simp only [CL,MC,Int.reduceToNat] at k27
            injection h with h; subst h
            simp -implicitDefEqProofs only [nr,TT,Ic.t,Ic.ci,Nat.reduceEqDiff,reduceIte,Nat.reduceAdd,Nat.reduceLT,reduceCtorEq,Int.reduceToNat,hl,k2,c3,k5,k7,eq_true c8,k10,k12,eq_true c13,k15,k17,eq_true c18,k20,k22,k24,c25,k27,CL,LTN]
            exact hK
          rw [if_neg c25] at h
          have c25 := Bool.eq_false_iff.2 c25
          injection h with h; subst h
          simp -implicitDefEqProofs only [nr,TT,Ic.t,Ic.ci,Nat.reduceEqDiff,reduceIte,Nat.reduceAdd,Nat.reduceLT,reduceCtorEq,Int.reduceToNat,hl,k2,c3,k5,k7,eq_true c8,k10,k12,eq_true c13,k15,k17,eq_true c18,k20,k22,k24,c25,CL,LTN]
          exact hK
        rw [if_neg c18] at h
        injection h with h; subst h
        simp -implicitDefEqProofs only [nr,TT,Ic.t,Ic.ci,Nat.reduceEqDiff,reduceIte,Nat.reduceAdd,Nat.reduceLT,reduceCtorEq,Int.reduceToNat,hl,k2,c3,k5,k7,eq_true c8,k10,k12,eq_true c13,k15,k17,c18,CL,LTN]
        exact hK
      rw [if_neg c13] at h
      injection h with h; subst h
      simp -implicitDefEqProofs only [nr,TT,Ic.t,Ic.ci,Nat.reduceEqDiff,reduceIte,Nat.reduceAdd,Nat.reduceLT,reduceCtorEq,Int.reduceToNat,hl,k2,c3,k5,k7,eq_true c8,k10,k12,c13,CL,LTN]
      exact hK
    rw [if_neg c8] at h
    injection h with h; subst h
    simp -implicitDefEqProofs only [nr,TT,Ic.t,Ic.ci,Nat.reduceEqDiff,reduceIte,Nat.reduceAdd,Nat.reduceLT,reduceCtorEq,Int.reduceToNat,hl,k2,c3,k5,k7,c8,CL,LTN]
    exact hK
  rw [if_neg c3] at h
  have c3 := Bool.eq_false_iff.2 c3
  obtain ⟨y28,hy28,h⟩ := ob h
  have k29 := zak8  _ hy28
  try simp only [CL,MC,Int.reduceToNat] at k29
  injection h with h; subst h
  simp -implicitDefEqProofs only [nr,TT,Ic.t,Ic.ci,Nat.reduceEqDiff,reduceIte,Nat.reduceAdd,Nat.reduceLT,reduceCtorEq,Int.reduceToNat,hl,k2,c3,k29,CL,LTN]
  exact hK
theorem L06_WhenAll_f_k (p1 : aa) (p2 : Int) (r : Bool) (h : ry p1 p2 = some r) (lk : Bool) (d : Option Nat) (K : au) (fr : TF) (tk : TK) (τ : TH) (hl : τ.lock ≤ τ.next) : fv G lk ny [.agg [.str p1.ID,.sl (List.map ac.tv p1.Parties),.sl (List.map af.tv p1.Arcs),.sl (List.map (TV.int .i64) p1.Leaders),.sl (List.map TV.str p1.Locks),.int .i64 p1.Start,.int .i64 p1.Delta],.int .i64 p2] d K fr tk τ = K (fu fr d (.bool r)) tk τ :=
  aw (vu p1 p2 r h τ  hl) (vu p1 p2 r h (τ.locked τ.next)  (Nat.le_refl _) ) (by simp -implicitDefEqProofs only [TT,Ic.t,Ic.ci,Nat.reduceEqDiff,reduceIte,Nat.reduceAdd,Nat.reduceLT,reduceCtorEq,Int.reduceToNat,hl,CL,LTN])
end Go.Proofs.Ytdcfoaafkppojaa
