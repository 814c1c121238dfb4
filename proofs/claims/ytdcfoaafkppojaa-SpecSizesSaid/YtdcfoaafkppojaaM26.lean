import Derived.Test.YtdcfoaafkppojaaD6
set_option linter.unusedVariables false
set_option linter.unusedSimpArgs false
set_option linter.unusedSectionVars false
open Nat (reduceEqDiff reduceAdd reduceLT)
open Int (reduceToNat reduceEq)
namespace Go.Proofs.Ytdcfoaafkppojaa
open Go Go.RowKit Sh Ic
noncomputable def bv (v0 : (List Int)) (v1 : (List Int)) (v2 : Int) (v3 : Int) : Option (LS (Int) (LX (Unit) (Bool))) :=
 if v3 < v2 then
  ixL v0 v3 >>= fun y2 =>
  ixL v1 v3 >>= fun y4 =>
  if y2 = y4 then
   some (.nx (IntKind.i64.wrap (v3 + (1 : Int))))
  else
  some (.dn (.rt false))
 else
 some (.dn (.ex ()))
noncomputable def bw (v0 : (List Int)) (v1 : (List Int)) (v2 : Int) (v3 : Int) : Option (LX (Unit) (Bool)) := sq (fun st => bv v0 v1 v2 st) v3
theorem m6 (v0 : (List Int)) (v1 : (List Int)) (v2 : Int) (v3 : Int) : bw v0 v1 v2 v3 = bv v0 v1 v2 v3 >>= LS.go (fun st => bw v0 v1 v2 st) := gy (fun st => bv v0 v1 v2 st) v3
def j0 (v0 : (List Int)) (v1 : (List Int)) (v2 : Int) (v3 : Int) (r : LX (Unit) (Bool)) : Prop := ∀ (τ : TH) (hl : τ.lock ≤ τ.next) (Q : TEx → av) (hQ0 : ∀ v : Unit,r = (.ex v) → ∀ (fr : TF) (tk2 : TK) (τ2 : TH),tk2.take 0 = [] → τ2.cut τ.next = τ → Q (.exit 0) fr tk2 τ2) (hQ1 : ∀ v : Bool,r = (.rt v) → ∀ (tk2 : TK) (τ2 : TH),τ2.cut τ.next = τ → Q .ret [(4,.bool v)] tk2 τ2) ,tW G (.loop [0,1,12,13] jj) Q [(0,.sl (List.map (TV.int .i64) v0)),(1,.sl (List.map (TV.int .i64) v1)),(12,.int .i64 v2),(13,.int .i64 v3)] [] τ
theorem zc80 (v0 : (List Int)) (v1 : (List Int)) (v2 : Int) (v3 : Int) (r : LX (Unit) (Bool)) (h : bw v0 v1 v2 v3 = some r) : j0 v0 v1 v2 v3 r := by
 refine fg (f := fun st => bv v0 v1 v2 st) (P := fun st r => ∀ (v3 : Int),v3 = st → j0 v0 v1 v2 v3 r) ?_ h v3 rfl
 clear h r v3
 intro st o h r ih v3 hst τ  hl Q hQ0 hQ1
 subst hst
 have h : bv v0 v1 v2 v3 = some o := h
 unfold bv at h
 refine pj fun LQ hn hr he => ?_
 by_cases c1 : v3 < v2
 · rw [if_pos c1] at h
   obtain ⟨y2,hy2,h⟩ := ob h
   have f3 := de hy2
   have f3a := (f3.2.2 (TV.int .i64)).1
   have f3b := (f3.2.2 (TV.int .i64)).2
   try simp only [CL,MC,reduceToNat] at f3 f3a f3b
   obtain ⟨y4,hy4,h⟩ := ob h
   have f5 := de hy4
   have f5a := (f5.2.2 (TV.int .i64)).1
   have f5b := (f5.2.2 (TV.int .i64)).2
   try simp only [CL,MC,reduceToNat] at f5 f5a f5b
   by_cases c6 : y2 = y4
   · rw [if_pos c6] at h
     injection h with h; subst h
     have ih := ih (IntKind.i64.wrap (v3 + (1 : Int))) rfl
     unfold j0 at ih
     simp -implicitDefEqProofs only [jj,gq,TT,Ic.t,ci,reduceEqDiff,reduceIte,reduceAdd,reduceLT,reduceCtorEq,reduceToNat,hl,c1,f3.1,f3.2.1,f3a,f3b,f5.1,f5.2.1,f5a,f5b,eq_true c6,CL,LTN]
     rw [hn]
     simp -implicitDefEqProofs only [TT,Ic.t,ci,reduceEqDiff,reduceIte,reduceAdd,reduceLT,reduceCtorEq,reduceToNat,hl,c1,f3.1,f3.2.1,f3a,f3b,f5.1,f5.2.1,f5a,f5b,eq_true c6,CL,LTN]
     exact ih  τ    (by first | assumption | (simp only [ag,ak]; assumption)) Q hQ0 hQ1
   rw [if_neg c6] at h
   injection h with h; subst h
   obtain rfl : _ = r := ih
   simp -implicitDefEqProofs only [jj,gq,TT,Ic.t,ci,reduceEqDiff,reduceIte,reduceAdd,reduceLT,reduceCtorEq,reduceToNat,hl,he,hr,c1,f3.1,f3.2.1,f3a,f3b,f5.1,f5.2.1,f5a,f5b,c6,CL,LTN]
   exact hQ1 false rfl  _ _  (by first | exact kf (Nat.le_refl _) | (simp -implicitDefEqProofs only [TT,Ic.t,ci,reduceEqDiff,reduceIte,reduceAdd,reduceLT,reduceCtorEq,reduceToNat,hl,c1,f3.1,f3.2.1,f3a,f3b,f5.1,f5.2.1,f5a,f5b,c6,CL,LTN]))
 rw [if_neg c1] at h
 injection h with h; subst h
 obtain rfl : _ = r := ih
 simp -implicitDefEqProofs only [jj,gq,TT,Ic.t,ci,reduceEqDiff,reduceIte,reduceAdd,reduceLT,reduceCtorEq,reduceToNat,hl,he,hr,c1,CL,LTN]
 exact hQ0 () rfl  _ _ _   (by first | rfl | (simp -implicitDefEqProofs only [TT,Ic.t,ci,reduceEqDiff,reduceIte,reduceAdd,reduceLT,reduceCtorEq,reduceToNat,hl,c1,CL,LTN])) (by first | exact kf (Nat.le_refl _) | (simp -implicitDefEqProofs only [TT,Ic.t,ci,reduceEqDiff,reduceIte,reduceAdd,reduceLT,reduceCtorEq,reduceToNat,hl,c1,CL,LTN]))
noncomputable def ij (p1 : (List Int)) (p2 : (List Int)) : Option Bool :=
 if ((p1.length : Nat) : Int) = ((p2.length : Nat) : Int) then
  bw p1 p2 ((p1.length : Nat) : Int) (0 : Int) >>= fun y2 =>
  match y2 with
  | .ex w3 =>
   some true
  | .rt w5 =>
   some w5
 else
 some false
theorem zb (p1 : (List Int)) (p2 : (List Int)) (r : Bool) (h : ij p1 p2 = some r) (τ : TH) (hl : τ.lock ≤ τ.next) : Ru G il [.sl (List.map (TV.int .i64) p1),.sl (List.map (TV.int .i64) p2)] τ (.bool r) τ := by
 refine jv fun K hK => ?_
 rw [bx zc8c (Nat.le_of_ble_eq_true rfl)]
 unfold ij at h
 by_cases c1 : ((p1.length : Nat) : Int) = ((p2.length : Nat) : Int)
 · rw [if_pos c1] at h
   obtain ⟨y2,hy2,h⟩ := ob h
   simp -implicitDefEqProofs only [gq,TT,Ic.t,ci,reduceEqDiff,reduceIte,reduceAdd,reduceLT,reduceCtorEq,reduceToNat,hl,eq_true c1,CL,LTN]
   have Sy2 := zc80 p1 p2 ((p1.length : Nat) : Int) (0 : Int) y2 hy2
   unfold j0 at Sy2
   refine Sy2 _ (by first | assumption | omega | (simp only [ag,ap,ak,bb]; omega)) _ ?_ ?_
   · intro w3 e frq4 tkq4 τq4 htq4 hcq4
     subst e
     simp only at h
     have hcq4 := gc (n := τ.next) hcq4 (by first | omega | (simp only [ag,ap]; omega))
     try simp only [List.take_succ_cons,List.take_zero,List.take_nil,CL] at htq4
     try simp -implicitDefEqProofs only [TT,Ic.t,ci,reduceEqDiff,reduceIte,reduceAdd,reduceLT,reduceCtorEq,reduceToNat,hl,eq_true c1,CL,LTN] at hcq4
     injection h with h; subst h
     simp -implicitDefEqProofs only [gq,TT,Ic.t,ci,reduceEqDiff,reduceIte,reduceAdd,reduceLT,reduceCtorEq,reduceToNat,hl,eq_true c1,htq4,hcq4,CL,LTN]
     exact hK
   intro w5 e tkq6 τq6 hcq6
   subst e
   simp only at h
   have hcq6 := gc (n := τ.next) hcq6 (by first | omega | (simp only [ag,ap]; omega))
   try simp -implicitDefEqProofs only [TT,Ic.t,ci,reduceEqDiff,reduceIte,reduceAdd,reduceLT,reduceCtorEq,reduceToNat,hl,eq_true c1,CL,LTN] at hcq6
   injection h with h; subst h
   simp -implicitDefEqProofs only [gq,TT,Ic.t,ci,reduceEqDiff,reduceIte,reduceAdd,reduceLT,reduceCtorEq,reduceToNat,hl,eq_true c1,hcq6,CL,LTN]
   exact hK
 rw [if_neg c1] at h
 injection h with h; subst h
 simp -implicitDefEqProofs only [gq,TT,Ic.t,ci,reduceEqDiff,reduceIte,reduceAdd,reduceLT,reduceCtorEq,reduceToNat,hl,c1,CL,LTN]
 exact hK
theorem zc8p (p1 : (List Int)) (p2 : (List Int)) (r : Bool) (h : ij p1 p2 = some r) (lk : Bool) (d : Option Nat) (K : av) (fr : TF) (tk : TK) (τ : TH) (hl : τ.lock ≤ τ.next) : fp G lk il [.sl (List.map (TV.int .i64) p1),.sl (List.map (TV.int .i64) p2)] d K fr tk τ = K (gg fr d (.bool r)) tk τ :=
 bn (zb p1 p2 r h τ  hl) (zb p1 p2 r h (τ.locked τ.next)  (Nat.le_refl _) ) (by simp -implicitDefEqProofs only [TT,Ic.t,ci,reduceEqDiff,reduceIte,reduceAdd,reduceLT,reduceCtorEq,reduceToNat,hl,CL,LTN])
noncomputable def xv (p1 : aq) (p2 : aq) : Option Bool :=
 if p1.ID = p2.ID then
  ax p1.Parties p2.Parties >>= fun y2 =>
  if y2 = true then
   dz p1.Arcs p2.Arcs >>= fun y5 =>
   if y5 = true then
    ij p1.Leaders p2.Leaders >>= fun y8 =>
    if y8 = true then
     cj p1.Locks p2.Locks >>= fun y11 =>
     if y11 = true then
      if p1.Start = p2.Start then
       some (decide (p1.Delta = p2.Delta))
      else
      some false
     else
     some false
    else
    some false
   else
   some false
  else
  some false
 else
 some false
theorem zcqd (p1 : aq) (p2 : aq) (r : Bool) (h : xv p1 p2 = some r) (τ : TH) (hl : τ.lock ≤ τ.next) : Ru G yw [.agg [.str p1.ID,.sl (List.map ac.tv p1.Parties),.sl (List.map af.tv p1.Arcs),.sl (List.map (TV.int .i64) p1.Leaders),.sl (List.map TV.str p1.Locks),.int .i64 p1.Start,.int .i64 p1.Delta],.agg [.str p2.ID,.sl (List.map ac.tv p2.Parties),.sl (List.map af.tv p2.Arcs),.sl (List.map (TV.int .i64) p2.Leaders),.sl (List.map TV.str p2.Locks),.int .i64 p2.Start,.int .i64 p2.Delta]] τ (.bool r) τ := by
 refine jv fun K hK => ?_
 rw [bx zc4t (Nat.le_of_ble_eq_true rfl)]
 unfold xv at h
 by_cases c1 : p1.ID = p2.ID
 · rw [if_pos c1] at h
   obtain ⟨y2,hy2,h⟩ := ob h
   have k3 := kl p1.Parties p2.Parties _ hy2
   try simp only [CL,MC,reduceToNat] at k3
   by_cases c4 : y2 = true
   · rw [if_pos c4] at h
     obtain ⟨y5,hy5,h⟩ := ob h
     have k6 := zc9j p1.Arcs p2.Arcs _ hy5
     try simp only [CL,MC,reduceToNat] at k6
     by_cases c7 : y5 = true
     · rw [if_pos c7] at h
       obtain ⟨y8,hy8,h⟩ := ob h
       have k9 := zc8p p1.Leaders p2.Leaders _ hy8
       try simp only [CL,MC,reduceToNat] at k9
       by_cases c10 : y8 = true
       · rw [if_pos c10] at h
         obtain ⟨y11,hy11,h⟩ := ob h
         have k12 := qz p1.Locks p2.Locks _ hy11
         try simp only [CL,MC,reduceToNat] at k12
         by_cases c13 : y11 = true
         · rw [if_pos c13] at h
           by_cases c14 : p1.Start = p2.Start
           · rw [if_pos c14] at h
             injection h with h; subst h
             simp -implicitDefEqProofs only [yp,TT,Ic.t,ci,reduceEqDiff,reduceIte,reduceAdd,reduceLT,reduceCtorEq,reduceToNat,hl,eq_true c1,k3,c4,k6,c7,k9,c10,k12,c13,eq_true c14,CL,LTN]
             first | exact hK | (simp only [hl,eq_true c1,k3,c4,k6,c7,k9,c10,k12,c13,eq_true c14,CL] at hK; exact hK)
           rw [if_neg c14] at h
           injection h with h; subst h
           simp -implicitDefEqProofs only [yp,TT,Ic.t,ci,reduceEqDiff,reduceIte,reduceAdd,reduceLT,reduceCtorEq,reduceToNat,hl,eq_true c1,k3,c4,k6,c7,k9,c10,k12,c13,c14,CL,LTN]
           first | exact hK | (simp only [hl,eq_true c1,k3,c4,k6,c7,k9,c10,k12,c13,c14,CL] at hK; exact hK)
         rw [if_neg c13] at h
         have c13 := Bool.eq_false_iff.2 c13
         injection h with h; subst h
         simp -implicitDefEqProofs only [yp,TT,Ic.t,ci,reduceEqDiff,reduceIte,reduceAdd,reduceLT,reduceCtorEq,reduceToNat,hl,eq_true c1,k3,c4,k6,c7,k9,c10,k12,c13,CL,LTN]
         first | exact hK | (simp only [hl,eq_true c1,k3,c4,k6,c7,k9,c10,k12,c13,CL] at hK; exact hK)
       rw [if_neg c10] at h
       have c10 := Bool.eq_false_iff.2 c10
       injection h with h; subst h
       simp -implicitDefEqProofs only [yp,TT,Ic.t,ci,reduceEqDiff,reduceIte,reduceAdd,reduceLT,reduceCtorEq,reduceToNat,hl,eq_true c1,k3,c4,k6,c7,k9,c10,CL,LTN]
       first | exact hK | (simp only [hl,eq_true c1,k3,c4,k6,c7,k9,c10,CL] at hK; exact hK)
     rw [if_neg c7] at h
     have c7 := Bool.eq_false_iff.2 c7
     injection h with h; subst h
     simp -implicitDefEqProofs only [yp,TT,Ic.t,ci,reduceEqDiff,reduceIte,reduceAdd,reduceLT,reduceCtorEq,reduceToNat,hl,eq_true c1,k3,c4,k6,c7,CL,LTN]
     first | exact hK | (simp only [hl,eq_true c1,k3,c4,k6,c7,CL] at hK; exact hK)
   rw [if_neg c4] at h
   have c4 := Bool.eq_false_iff.2 c4
   injection h with h; subst h
   simp -implicitDefEqProofs only [yp,TT,Ic.t,ci,reduceEqDiff,reduceIte,reduceAdd,reduceLT,reduceCtorEq,reduceToNat,hl,eq_true c1,k3,c4,CL,LTN]
   first | exact hK | (simp only [hl,eq_true c1,k3,c4,CL] at hK; exact hK)
 rw [if_neg c1] at h
 injection h with h; subst h
 simp -implicitDefEqProofs only [yp,TT,Ic.t,ci,reduceEqDiff,reduceIte,reduceAdd,reduceLT,reduceCtorEq,reduceToNat,hl,c1,CL,LTN]
 exact hK
theorem zcqc (p1 : aq) (p2 : aq) (r : Bool) (h : xv p1 p2 = some r) (lk : Bool) (d : Option Nat) (K : av) (fr : TF) (tk : TK) (τ : TH) (hl : τ.lock ≤ τ.next) : fp G lk yw [.agg [.str p1.ID,.sl (List.map ac.tv p1.Parties),.sl (List.map af.tv p1.Arcs),.sl (List.map (TV.int .i64) p1.Leaders),.sl (List.map TV.str p1.Locks),.int .i64 p1.Start,.int .i64 p1.Delta],.agg [.str p2.ID,.sl (List.map ac.tv p2.Parties),.sl (List.map af.tv p2.Arcs),.sl (List.map (TV.int .i64) p2.Leaders),.sl (List.map TV.str p2.Locks),.int .i64 p2.Start,.int .i64 p2.Delta]] d K fr tk τ = K (gg fr d (.bool r)) tk τ :=
 bn (zcqd p1 p2 r h τ  hl) (zcqd p1 p2 r h (τ.locked τ.next)  (Nat.le_refl _) ) (by simp -implicitDefEqProofs only [TT,Ic.t,ci,reduceEqDiff,reduceIte,reduceAdd,reduceLT,reduceCtorEq,reduceToNat,hl,CL,LTN])
noncomputable def yv  : Option Bool :=
 zb0l (2 : Int) (5 : Int) (6 : Int) >>= fun y1 =>
 ua y1 >>= fun y3 =>
 t9 y3 >>= fun y5 =>
 t9 (⟨#[]⟩ : ByteArray) >>= fun y7 =>
 l5 y1 >>= fun y9 =>
 if y9 = true then
  if y5.2 = (0 : Int) then
   xv y1 y5.1 >>= fun y13 =>
   if y13 = true then
    if y7.2 = (2 : Int) then
     l5 (⟨(⟨#[]⟩ : ByteArray),[],[],[],[],(0 : Int),(0 : Int)⟩ : aq) >>= fun y17 =>
     some (!y17)
    else
    some false
   else
   some false
  else
  some false
 else
 some false
theorem zcn6  (r : Bool) (h : yv  = some r) (τ : TH) (hl : τ.lock ≤ τ.next) : Ru G zb3i [] τ (.bool r) τ := by
 refine jv fun K hK => ?_
 rw [bx zc4l (Nat.le_of_ble_eq_true rfl)]
 unfold yv at h
 obtain ⟨y1,hy1,h⟩ := ob h
 have k2 := zcnk (2 : Int) (5 : Int) (6 : Int) _ hy1
 try simp only [CL,MC,reduceToNat] at k2
 obtain ⟨y3,hy3,h⟩ := ob h
 have k4 := zcsi y1 _ hy3
 try simp only [CL,MC,reduceToNat] at k4
 obtain ⟨y5,hy5,h⟩ := ob h
 have k6 := zcdi y3 _ hy5
 try simp only [CL,MC,reduceToNat] at k6
 obtain ⟨y7,hy7,h⟩ := ob h
 have k8 := zcdi (⟨#[]⟩ : ByteArray) _ hy7
 try simp only [CL,MC,reduceToNat] at k8
 obtain ⟨y9,hy9,h⟩ := ob h
 have k10 := zb9p y1 _ hy9
 try simp only [CL,MC,reduceToNat] at k10
 by_cases c11 : y9 = true
 · rw [if_pos c11] at h
   by_cases c12 : y5.2 = (0 : Int)
   · rw [if_pos c12] at h
     obtain ⟨y13,hy13,h⟩ := ob h
     have k14 := zcqc y1 y5.1 _ hy13
     try simp only [CL,MC,reduceToNat] at k14
     by_cases c15 : y13 = true
     · rw [if_pos c15] at h
       by_cases c16 : y7.2 = (2 : Int)
       · rw [if_pos c16] at h
         obtain ⟨y17,hy17,h⟩ := ob h
         have k18 := zb9p (⟨(⟨#[]⟩ : ByteArray),[],[],[],[],(0 : Int),(0 : Int)⟩ : aq) _ hy17
         try simp only [CL,MC,reduceToNat] at k18
         injection h with h; subst h
         simp -implicitDefEqProofs only [zb4w,TT,Ic.t,ci,reduceEqDiff,reduceIte,reduceAdd,reduceLT,reduceCtorEq,reduceToNat,hl,k2,k4,k6,k8,k10,c11,eq_true c12,k14,c15,eq_true c16,k18,CL,LTN]
         first | exact hK | (simp only [hl,k2,k4,k6,k8,k10,c11,eq_true c12,k14,c15,eq_true c16,k18,CL] at hK; exact hK)
       rw [if_neg c16] at h
       injection h with h; subst h
       simp -implicitDefEqProofs only [zb4w,TT,Ic.t,ci,reduceEqDiff,reduceIte,reduceAdd,reduceLT,reduceCtorEq,reduceToNat,hl,k2,k4,k6,k8,k10,c11,eq_true c12,k14,c15,c16,CL,LTN]
       first | exact hK | (simp only [hl,k2,k4,k6,k8,k10,c11,eq_true c12,k14,c15,c16,CL] at hK; exact hK)
     rw [if_neg c15] at h
     have c15 := Bool.eq_false_iff.2 c15
     injection h with h; subst h
     simp -implicitDefEqProofs only [zb4w,TT,Ic.t,ci,reduceEqDiff,reduceIte,reduceAdd,reduceLT,reduceCtorEq,reduceToNat,hl,k2,k4,k6,k8,k10,c11,eq_true c12,k14,c15,CL,LTN]
     first | exact hK | (simp only [hl,k2,k4,k6,k8,k10,c11,eq_true c12,k14,c15,CL] at hK; exact hK)
   rw [if_neg c12] at h
   injection h with h; subst h
   simp -implicitDefEqProofs only [zb4w,TT,Ic.t,ci,reduceEqDiff,reduceIte,reduceAdd,reduceLT,reduceCtorEq,reduceToNat,hl,k2,k4,k6,k8,k10,c11,c12,CL,LTN]
   first | exact hK | (simp only [hl,k2,k4,k6,k8,k10,c11,c12,CL] at hK; exact hK)
 rw [if_neg c11] at h
 have c11 := Bool.eq_false_iff.2 c11
 injection h with h; subst h
 simp -implicitDefEqProofs only [zb4w,TT,Ic.t,ci,reduceEqDiff,reduceIte,reduceAdd,reduceLT,reduceCtorEq,reduceToNat,hl,k2,k4,k6,k8,k10,c11,CL,LTN]
 first | exact hK | (simp only [hl,k2,k4,k6,k8,k10,c11,CL] at hK; exact hK)
theorem zdar  (r : Bool) (h : yv  = some r) (lk : Bool) (d : Option Nat) (K : av) (fr : TF) (tk : TK) (τ : TH) (hl : τ.lock ≤ τ.next) : fp G lk zb3i [] d K fr tk τ = K (gg fr d (.bool r)) tk τ :=
 bn (zcn6  r h τ  hl) (zcn6  r h (τ.locked τ.next)  (Nat.le_refl _) ) (by simp -implicitDefEqProofs only [TT,Ic.t,ci,reduceEqDiff,reduceIte,reduceAdd,reduceLT,reduceCtorEq,reduceToNat,hl,CL,LTN])
noncomputable def qv (p1 : Int) (p2 : Int) (p3 : Int) : Option Bool :=
 uk p1 (5 : Int) >>= fun y1 =>
 uk p2 (1099511627776 : Int) >>= fun y3 =>
 uk p3 (1048576 : Int) >>= fun y5 =>
 zb0l (IntKind.i64.wrap ((2 : Int) + y1)) y3 (IntKind.i64.wrap ((1 : Int) + y5)) >>= fun y7 =>
 some (IntKind.i64.wrap ((IntKind.i64.wrap ((IntKind.i64.wrap ((IntKind.i64.wrap ((IntKind.i64.wrap ((IntKind.i64.wrap ((IntKind.i64.wrap ((IntKind.i64.wrap ((IntKind.i64.wrap ((20 : Int) + (IntKind.i64.wrap ((IntKind.i64.wrap ((2 : Int) + y1)) * (46 : Int))))) + (8 : Int))) + (IntKind.i64.wrap ((IntKind.i64.wrap ((2 : Int) + y1)) * (44 : Int))))) + (8 : Int))) + (8 : Int))) + (8 : Int))) + (8 : Int))) + (32 : Int))) + (16 : Int))) >>= fun x9 =>
 ua y7 >>= fun y11 =>
 t9 y11 >>= fun y13 =>
 if ((y11.size : Nat) : Int) = x9 then
  if y13.2 = (0 : Int) then
   xv y7 y13.1 >>= fun y17 =>
   if y17 = true then
    yv >>= fun y20 =>
    some y20
   else
   some false
  else
  some false
 else
 some false
theorem zc9e (p1 : Int) (p2 : Int) (p3 : Int) (r : Bool) (h : qv p1 p2 p3 = some r) (τ : TH) (hl : τ.lock ≤ τ.next) : Ru G qx [.int .i64 p1,.int .i64 p2,.int .i64 p3] τ (.bool r) τ := by
 refine jv fun K hK => ?_
 rw [bx zc5o (Nat.le_of_ble_eq_true rfl)]
 unfold qv at h
 obtain ⟨y1,hy1,h⟩ := ob h
 have k2 := zcc0 p1 (5 : Int) _ hy1
 try simp only [CL,MC,reduceToNat] at k2
 obtain ⟨y3,hy3,h⟩ := ob h
 have k4 := zcc0 p2 (1099511627776 : Int) _ hy3
 try simp only [CL,MC,reduceToNat] at k4
 obtain ⟨y5,hy5,h⟩ := ob h
 have k6 := zcc0 p3 (1048576 : Int) _ hy5
 try simp only [CL,MC,reduceToNat] at k6
 obtain ⟨y7,hy7,h⟩ := ob h
 have k8 := zcnk (IntKind.i64.wrap ((2 : Int) + y1)) y3 (IntKind.i64.wrap ((1 : Int) + y5)) _ hy7
 try simp only [CL,MC,reduceToNat] at k8
 obtain ⟨x9,hx9,h⟩ := ob h
 have f10 := Option.some.inj hx9
 obtain ⟨y11,hy11,h⟩ := ob h
 have k12 := zcsi y7 _ hy11
 try simp only [CL,MC,reduceToNat] at k12
 obtain ⟨y13,hy13,h⟩ := ob h
 have k14 := zcdi y11 _ hy13
 try simp only [CL,MC,reduceToNat] at k14
 by_cases c15 : ((y11.size : Nat) : Int) = x9
 · rw [if_pos c15] at h
   by_cases c16 : y13.2 = (0 : Int)
   · rw [if_pos c16] at h
     obtain ⟨y17,hy17,h⟩ := ob h
     have k18 := zcqc y7 y13.1 _ hy17
     try simp only [CL,MC,reduceToNat] at k18
     by_cases c19 : y17 = true
     · rw [if_pos c19] at h
       obtain ⟨y20,hy20,h⟩ := ob h
       have k21 := zdar  _ hy20
       try simp only [CL,MC,reduceToNat] at k21
       injection h with h; subst h
       simp -implicitDefEqProofs only [zb9u,TT,Ic.t,ci,reduceEqDiff,reduceIte,reduceAdd,reduceLT,reduceCtorEq,reduceToNat,hl,k2,k4,k6,k8,f10,k12,k14,eq_true c15,eq_true c16,k18,c19,k21,CL,LTN]
       first | exact hK | (simp only [hl,k2,k4,k6,k8,f10,k12,k14,eq_true c15,eq_true c16,k18,c19,k21,CL] at hK; exact hK)
     rw [if_neg c19] at h
     have c19 := Bool.eq_false_iff.2 c19
     injection h with h; subst h
     simp -implicitDefEqProofs only [zb9u,TT,Ic.t,ci,reduceEqDiff,reduceIte,reduceAdd,reduceLT,reduceCtorEq,reduceToNat,hl,k2,k4,k6,k8,f10,k12,k14,eq_true c15,eq_true c16,k18,c19,CL,LTN]
     first | exact hK | (simp only [hl,k2,k4,k6,k8,f10,k12,k14,eq_true c15,eq_true c16,k18,c19,CL] at hK; exact hK)
   rw [if_neg c16] at h
   injection h with h; subst h
   simp -implicitDefEqProofs only [zb9u,TT,Ic.t,ci,reduceEqDiff,reduceIte,reduceAdd,reduceLT,reduceCtorEq,reduceToNat,hl,k2,k4,k6,k8,f10,k12,k14,eq_true c15,c16,CL,LTN]
   exact hK
 rw [if_neg c15] at h
 injection h with h; subst h
 simp -implicitDefEqProofs only [zb9u,TT,Ic.t,ci,reduceEqDiff,reduceIte,reduceAdd,reduceLT,reduceCtorEq,reduceToNat,hl,k2,k4,k6,k8,f10,k12,k14,c15,CL,LTN]
 exact hK
end Go.Proofs.Ytdcfoaafkppojaa

namespace Go.Proofs.Ytdcfoaafkppojaa
open Go Go.RowKit Sh Ic
abbrev W := BitVec 32
theorem obz {α β : Type} {a : α} {f : α → Option β} : (some a >>= f) = f a := by generalize h : f a = x; exact h
theorem w64 {n : Int} (h1 : -9223372036854775808 ≤ n) (h2 : n < 9223372036854775808) : IntKind.i64.wrap n = n := by
 simp [IntKind.wrap,IntKind.bits,IntKind.signed,IntKind.max]; omega
theorem zcew (n : Int) : IntKind.u32.wrap n = n % 4294967296 := by simp [IntKind.wrap,IntKind.bits,IntKind.signed]
theorem zb4g (n : Nat) (h : n < 4294967296) : IntKind.u32.wrap (n : Int) = (n : Int) := by rw [zcew]; omega
theorem zbz3 (a : W) : BitVec.ofInt 32 (a.toNat : Int) = a := by
 rw [BitVec.ofInt_natCast,BitVec.ofNat_toNat,BitVec.setWidth_eq]
theorem zb5n (a : W) : a.toNat < 4294967296 := a.isLt
theorem zc22 (a b : W) : IntKind.u32.wrap ((BitVec.ofInt IntKind.u32.bits (a.toNat : Int) ||| BitVec.ofInt IntKind.u32.bits (b.toNat : Int)).toNat : Int) = ((a ||| b).toNat : Int) := by
 show IntKind.u32.wrap ((BitVec.ofInt 32 (a.toNat : Int) ||| BitVec.ofInt 32 (b.toNat : Int)).toNat : Int) = _
 rw [zbz3,zbz3,zb4g _ (zb5n _)]
theorem zcez (a b : W) : IntKind.u32.wrap ((BitVec.ofInt IntKind.u32.bits (a.toNat : Int) &&& BitVec.ofInt IntKind.u32.bits (b.toNat : Int)).toNat : Int) = ((a &&& b).toNat : Int) := by
 show IntKind.u32.wrap ((BitVec.ofInt 32 (a.toNat : Int) &&& BitVec.ofInt 32 (b.toNat : Int)).toNat : Int) = _
 rw [zbz3,zbz3,zb4g _ (zb5n _)]
theorem zb5k (a b : W) : IntKind.u32.wrap ((BitVec.ofInt IntKind.u32.bits (a.toNat : Int) ^^^ BitVec.ofInt IntKind.u32.bits (b.toNat : Int)).toNat : Int) = ((a ^^^ b).toNat : Int) := by
 show IntKind.u32.wrap ((BitVec.ofInt 32 (a.toNat : Int) ^^^ BitVec.ofInt 32 (b.toNat : Int)).toNat : Int) = _
 rw [zbz3,zbz3,zb4g _ (zb5n _)]
theorem zcey (a : W) : zce6 .u32 (a.toNat : Int) = ((~~~a).toNat : Int) := by
 show IntKind.u32.wrap ((BitVec.ofInt 32 4294967295 ^^^ BitVec.ofInt 32 (a.toNat : Int)).toNat : Int) = _
 rw [zbz3,show BitVec.ofInt 32 4294967295 = BitVec.allOnes 32 from by decide,BitVec.allOnes_xor,zb4g _ (zb5n _)]
theorem zb0o (a b : W) : IntKind.u32.wrap ((a.toNat : Int) + (b.toNat : Int)) = ((a + b).toNat : Int) := by
 rw [zcew,BitVec.toNat_add]; omega
theorem zb5l (a : W) (k : Nat) : (a.toNat : Int).fdiv (2 ^ k) = ((a >>> k).toNat : Int) := by
 rw [Int.fdiv_eq_ediv_of_nonneg _ (by exact Int.le_of_lt (Int.pow_pos (by decide))),BitVec.toNat_ushiftRight,Nat.shiftRight_eq_div_pow,Int.natCast_ediv,Int.natCast_pow]
 rfl
theorem zb5m (a : W) (k : Nat) : IntKind.u32.wrap ((a.toNat : Int) * 2 ^ k) = ((a <<< k).toNat : Int) := by
 rw [zcew,BitVec.toNat_shiftLeft,Nat.shiftLeft_eq,Int.natCast_emod,Int.natCast_mul,Int.natCast_pow]
 rfl
def zbod (x : W) (n : Nat) : W := x >>> n ||| x <<< (32 - n)
theorem zbtr (x : W) (n : Nat) (z : Int) (hz : z = (n : Int)) (hn : n ≤ 32) : lf (x.toNat : Int) z = some ((zbod x n).toNat : Int) := by
 subst hz
 have c1 : ¬ (n : Int) < 0 := by omega
 have w1 : IntKind.u64.wrap (32 - (n : Int)) = ((32 - n : Nat) : Int) := by
  have : IntKind.u64.wrap (32 - (n : Int)) = (32 - (n : Int)) % 18446744073709551616 := by simp [IntKind.wrap,IntKind.bits,IntKind.signed]
  omega
 have c2 : ¬ ((32 - n : Nat) : Int) < 0 := by omega
 have e1 : Nat.min n IntKind.u32.bits = n := Nat.min_eq_left hn
 have e2 : Nat.min (32 - n) IntKind.u32.bits = 32 - n := Nat.min_eq_left (Nat.sub_le _ _)
 unfold lf
 simp only [obz,c1,w1,c2,Int.toNat_natCast,e1,e2,zb5l,zb5m,zc22,not_false_eq_true,if_true]
 rfl
def wl (ws : List W) : List Int := ws.map fun a => (a.toNat : Int)
theorem zbwi (ws : List W) : (wl ws).length = ws.length := List.length_map ..
theorem zbjq (ws : List W) (j : Nat) (z : Int) (hz : z = (j : Int)) (h : j < ws.length) : ixL (wl ws) z = some ((ws.getD j 0).toNat : Int) := by
 subst hz
 rw [zbme (by rw [zbwi]; exact h)]
 simp only [wl,List.getElem_map,List.getD_eq_getElem?_getD,List.getElem?_eq_getElem h,Option.getD_some]
theorem zbml (ws : List W) (j : Nat) (x : W) : (wl ws).set j (x.toNat : Int) = wl (ws.set j x) := by rw [wl,wl,List.map_set]
def bt (s : ByteArray) (i : Nat) : W := BitVec.ofNat 32 (s.data.getD i 0).toNat
def be4 (s : ByteArray) (i : Nat) : W := bt s (4 * i) <<< 24 ||| bt s (4 * i + 1) <<< 16 ||| bt s (4 * i + 2) <<< 8 ||| bt s (4 * i + 3)
theorem zb63 (s : ByteArray) (i : Nat) : (bt s i).toNat = (s.data.getD i 0).toNat := by
 unfold bt; rw [BitVec.toNat_ofNat]; have := (s.data.getD i 0).toNat_lt; omega
theorem zb2h (s : ByteArray) (i : Nat) : IntKind.u32.wrap ((bt s i).toNat : Int) = ((bt s i).toNat : Int) := zb4g _ (zb5n _)
theorem zb7w (s : ByteArray) (i : Nat) (z : Int) (hz : z = (i : Int)) (h : i < s.size) : ixB s z = some ((bt s i).toNat : Int) := by
 subst hz
 unfold ixB
 rw [if_pos (by omega),Int.toNat_natCast,zb63]
def fill (s : ByteArray) : Nat → Nat → List W → List W
 | _,0,ws => ws
 | i,n + 1,ws => fill s (i + 1) n (ws.set i (be4 s i))
def zdb0 (x : W) : W := zbod x 7 ^^^ zbod x 18 ^^^ x >>> 3
def zdbz (x : W) : W := zbod x 17 ^^^ zbod x 19 ^^^ x >>> 10
def zce7 (ws : List W) (i : Nat) : W := ws.getD (i - 16) 0 + zdb0 (ws.getD (i - 15) 0) + ws.getD (i - 7) 0 + zdbz (ws.getD (i - 2) 0)
def zbn6 : Nat → Nat → List W → List W
 | _,0,ws => ws
 | i,n + 1,ws => zbn6 (i + 1) n (ws.set i (zce7 ws i))
structure V8 where
 a : W
 b : W
 c : W
 d : W
 e : W
 f : W
 g : W
 h : W
def V8.t1 (v : V8) (k w : W) : W := v.h + (zbod v.e 6 ^^^ zbod v.e 11 ^^^ zbod v.e 25) + (v.e &&& v.f ^^^ ~~~v.e &&& v.g) + k + w
def V8.t2 (v : V8) : W := (zbod v.a 2 ^^^ zbod v.a 13 ^^^ zbod v.a 22) + (v.a &&& v.b ^^^ v.a &&& v.c ^^^ v.b &&& v.c)
def V8.rnd (v : V8) (k w : W) : V8 := ⟨v.t1 k w + v.t2,v.a,v.b,v.c,v.d + v.t1 k w,v.e,v.f,v.g⟩
def zb98 (ks ws : List W) : Nat → Nat → V8 → V8
 | _,0,v => v
 | i,n + 1,v => zb98 ks ws (i + 1) n (v.rnd (ks.getD i 0) (ws.getD i 0))
def V8.list (v : V8) : List W := [v.a,v.b,v.c,v.d,v.e,v.f,v.g,v.h]
def zbsz (vs : List W) : Nat → Nat → List W → List W
 | _,0,hs => hs
 | i,n + 1,hs => zbsz vs (i + 1) n (hs.set i (hs.getD i 0 + vs.getD i 0))
def zb33 : List W := [0x428a2f98,0x71374491,0xb5c0fbcf,0xe9b5dba5,0x3956c25b,0x59f111f1,0x923f82a4,0xab1c5ed5,0xd807aa98,0x12835b01,0x243185be,0x550c7dc3,0x72be5d74,0x80deb1fe,0x9bdc06a7,0xc19bf174,0xe49b69c1,0xefbe4786,0x0fc19dc6,0x240ca1cc,0x2de92c6f,0x4a7484aa,0x5cb0a9dc,0x76f988da,0x983e5152,0xa831c66d,0xb00327c8,0xbf597fc7,0xc6e00bf3,0xd5a79147,0x06ca6351,0x14292967,0x27b70a85,0x2e1b2138,0x4d2c6dfc,0x53380d13,0x650a7354,0x766a0abb,0x81c2c92e,0x92722c85,0xa2bfe8a1,0xa81a664b,0xc24b8b70,0xc76c51a3,0xd192e819,0xd6990624,0xf40e3585,0x106aa070,0x19a4c116,0x1e376c08,0x2748774c,0x34b0bcb5,0x391c0cb3,0x4ed8aa4a,0x5b9cca4f,0x682e6ff3,0x748f82ee,0x78a5636f,0x84c87814,0x8cc70208,0x90befffa,0xa4506ceb,0xbef9a3f7,0xc67178f2]
theorem zbwb : zb33.length = 64 := rfl
theorem zb0v : zb4v = some (wl zb33) := rfl
def V8.ofL (l : List W) : V8 := ⟨l.getD 0 0,l.getD 1 0,l.getD 2 0,l.getD 3 0,l.getD 4 0,l.getD 5 0,l.getD 6 0,l.getD 7 0⟩
def zb72 : List W := List.replicate 64 0
def zbmk (s : ByteArray) : List W := zbn6 16 48 (fill s 0 16 zb72)
def zbt6 (hs : List W) (s : ByteArray) : List W := zbsz (zb98 zb33 (zbmk s) 0 64 (V8.ofL hs)).list 0 8 hs
theorem zche (s : ByteArray) (n : Nat) : ∀ i ws,(fill s i n ws).length = ws.length := by
 induction n with
 | zero => intro i ws; rfl
 | succ n ih => intro i ws; rw [fill,ih,List.length_set]
theorem zbn5 (n : Nat) : ∀ i ws,(zbn6 i n ws).length = ws.length := by
 induction n with
 | zero => intro i ws; rfl
 | succ n ih => intro i ws; rw [zbn6,ih,List.length_set]
theorem zbsy (vs : List W) (n : Nat) : ∀ i ws,(zbsz vs i n ws).length = ws.length := by
 induction n with
 | zero => intro i ws; rfl
 | succ n ih => intro i ws; rw [zbsz,ih,List.length_set]
theorem zbmj (s : ByteArray) : (zbmk s).length = 64 := by
 unfold zbmk; rw [zbn5,zche]; rfl
theorem zb8z (hs : List W) (s : ByteArray) (h : hs.length = 8) : (zbt6 hs s).length = 8 := by
 unfold zbt6; rw [zbsy,h]
theorem zcfl (l : List W) (h : l.length = 8) : ∃ a b c d e f g i : W,l = [a,b,c,d,e,f,g,i] := by
 match l,h with
 | [a,b,c,d,e,f,g,i],_ => exact ⟨a,b,c,d,e,f,g,i,rfl⟩
theorem m24 : Nat.min 24 IntKind.u32.bits = 24 := rfl
theorem m16 : Nat.min 16 IntKind.u32.bits = 16 := rfl
theorem m8 : Nat.min 8 IntKind.u32.bits = 8 := rfl
theorem m3 : Nat.min 3 IntKind.u32.bits = 3 := rfl
theorem m10 : Nat.min 10 IntKind.u32.bits = 10 := rfl
theorem za53 (i : Nat) (h : i < 1000000000000) : IntKind.i64.wrap ((i : Int) + 1) = ((i + 1 : Nat) : Int) := by rw [w64 (by omega) (by omega)]; omega
theorem zbvw (i k : Nat) (z : Int) (hz : z = (k : Int)) (h : i < 1000000000000) (hk : k ≤ i) : IntKind.i64.wrap ((i : Int) - z) = ((i - k : Nat) : Int) := by rw [hz,w64 (by omega) (by omega)]; omega
theorem zb6x (i : Nat) (h : i < 1000000000000) : IntKind.i64.wrap (4 * (i : Int)) = ((4 * i : Nat) : Int) := by rw [w64 (by omega) (by omega)]; omega
theorem zb7z (i : Nat) (k : Nat) (z : Int) (hz : z = (k : Int)) (h : i < 1000000000000) (hk : k < 1000) : IntKind.i64.wrap ((i : Int) + z) = ((i + k : Nat) : Int) := by rw [hz,w64 (by omega) (by omega)]; omega
theorem zb1w (i : Nat) (h : i < 64) : (0 ≤ (i : Int) ∧ (i : Int) < ((64 : Nat) : Int)) = True := eq_true ⟨by omega,by omega⟩
theorem in8 (i : Nat) (h : i < 8) : (0 ≤ (i : Int) ∧ (i : Int) < ((8 : Nat) : Int)) = True := eq_true ⟨by omega,by omega⟩
theorem zcfs (s : ByteArray) (hs : s.size = 64) (x y z : List Int) (n : Nat) : ∀ (i : Nat) (ws : List W),n + i = 16 → ws.length = 64 → xc s x y z (wl ws) (i : Int) = some (wl (fill s i n ws)) := by
 induction n with
 | zero =>
  intro i ws hi hl
  obtain rfl : i = 16 := by omega
  rw [zct1]
  rfl
 | succ n ih =>
  intro i ws hi hl
  have c : (i : Int) < 16 := by omega
  have cl : (i : Nat) + 1 ≤ (wl ws).length := by rw [zbwi]; omega
  rw [zct1,jd]
  rw [zb6x i (by omega),zb7z _ 1 1 rfl (by omega) (by omega),zb7z _ 2 2 rfl (by omega) (by omega),zb7z _ 3 3 rfl (by omega) (by omega)]
  rw [zb7w s (4 * i) _ rfl (by omega),zb7w s (4 * i + 1) _ rfl (by omega),zb7w s (4 * i + 2) _ rfl (by omega),zb7w s (4 * i + 3) _ rfl (by omega)]
  simp only [obz,zb2h,m24,m16,m8,zb5m,zc22,c,zb1w i (by omega),Int.toNat_natCast,cl,if_true,zbml,za53 i (by omega),LS.go]
  exact ih (i + 1) _ (by omega) (by rw [List.length_set,hl])
theorem zcfr (x y z : List Int) (n : Nat) : ∀ (i : Nat) (ws : List W),n + i = 64 → 16 ≤ i → ws.length = 64 → xb x y z (wl ws) (i : Int) = some (wl (zbn6 i n ws)) := by
 induction n with
 | zero =>
  intro i ws hi h16 hl
  obtain rfl : i = 64 := by omega
  rw [zct2]
  rfl
 | succ n ih =>
  intro i ws hi h16 hl
  have c : (i : Int) < 64 := by omega
  have cl : (i : Nat) + 1 ≤ (wl ws).length := by rw [zbwi]; omega
  rw [zct2,jc]
  rw [zbvw i 15 15 rfl (by omega) (by omega),zbvw i 2 2 rfl (by omega) (by omega),zbvw i 16 16 rfl (by omega) (by omega),zbvw i 7 7 rfl (by omega) (by omega)]
  rw [zbjq ws (i - 15) _ rfl (by omega),zbjq ws (i - 2) _ rfl (by omega),zbjq ws (i - 16) _ rfl (by omega),zbjq ws (i - 7) _ rfl (by omega)]
  simp only [obz,zbtr _ 7 7 rfl (by decide),zbtr _ 18 18 rfl (by decide),zbtr _ 17 17 rfl (by decide),zbtr _ 19 19 rfl (by decide),m3,m10,zb5l,zb5k,zb0o,c,zb1w i (by omega),zb1w (i - 15) (by omega),zb1w (i - 2) (by omega),zb1w (i - 16) (by omega),zb1w (i - 7) (by omega),Int.toNat_natCast,cl,if_true,zbml,za53 i (by omega),LS.go]
  exact ih (i + 1) _ (by omega) (by omega) (by rw [List.length_set,hl])
theorem zcfq (x y : List Int) (ks ws : List W) (hk : ks.length = 64) (hw : ws.length = 64) (n : Nat) : ∀ (i : Nat) (v : V8),n + i = 64 → xa x y (wl ws) (wl ks) (wl v.list) (i : Int) = some (wl (zb98 ks ws i n v).list) := by
 induction n with
 | zero =>
  intro i ws hi
  obtain rfl : i = 64 := by omega
  rw [zct3]
  rfl
 | succ n ih =>
  intro i v hi
  have c : (i : Int) < 64 := by omega
  rw [zct3,ja]
  rw [zbjq ks i _ rfl (by omega),zbjq ws i _ rfl (by omega),zbjq v.list 0 0 rfl (show 0 < 8 by decide),zbjq v.list 1 1 rfl (show 1 < 8 by decide),zbjq v.list 2 2 rfl (show 2 < 8 by decide),zbjq v.list 3 3 rfl (show 3 < 8 by decide),zbjq v.list 4 4 rfl (show 4 < 8 by decide),zbjq v.list 5 5 rfl (show 5 < 8 by decide),zbjq v.list 6 6 rfl (show 6 < 8 by decide),zbjq v.list 7 7 rfl (show 7 < 8 by decide)]
  have l8 : (wl v.list).length = 8 := rfl
  simp only [obz,zbtr _ 6 6 rfl (by decide),zbtr _ 11 11 rfl (by decide),zbtr _ 25 25 rfl (by decide),zbtr _ 2 2 rfl (by decide),zbtr _ 13 13 rfl (by decide),zbtr _ 22 22 rfl (by decide),zb5k,zb0o,zcez,zcey,c,zb1w i (by omega),l8,if_true,za53 i (by omega),LS.go]
  exact ih (i + 1) (v.rnd (ks.getD i 0) (ws.getD i 0)) (by omega)
theorem zcfp (x : List Int) (vs : List W) (hv : vs.length = 8) (n : Nat) : ∀ (i : Nat) (hs : List W),n + i = 8 → hs.length = 8 → wz x (wl vs) (wl hs) (i : Int) = some (wl (zbsz vs i n hs)) := by
 induction n with
 | zero =>
  intro i ws hi hl
  obtain rfl : i = 8 := by omega
  rw [zct4]
  rfl
 | succ n ih =>
  intro i hs hi hl
  have c : (i : Int) < 8 := by omega
  have cl : (i : Nat) + 1 ≤ (wl hs).length := by rw [zbwi]; omega
  rw [zct4,i9]
  rw [zbjq hs i _ rfl (by omega),zbjq vs i _ rfl (by omega)]
  simp only [obz,zb0o,c,in8 i (by omega),Int.toNat_natCast,cl,if_true,zbml,za53 i (by omega),LS.go]
  exact ih (i + 1) _ (by omega) (by rw [List.length_set,hl])
theorem zbzw : (List.replicate 64 (0 : Int)) = wl zb72 := rfl
theorem zbu8 (hs : List W) (h : hs.length = 8) : (V8.ofL hs).list = hs := by
 obtain ⟨a,b,c,d,e,f,g,i,rfl⟩ := zcfl hs h
 rfl
theorem zb2i (hs : List W) (s : ByteArray) (hl : hs.length = 8) (h : s.size = 64) : zb3g (wl hs) s = some (wl (zbt6 hs s)) := by
 have l8 : (wl hs).length = 8 := by rw [zbwi,hl]
 have l64 : (wl zb33).length = 64 := rfl
 have lb : (wl (zbt6 hs s)).length = 8 := by rw [zbwi,zb8z _ _ hl]
 unfold zb3g
 rw [zb0v,zbzw]
 have e1 := fun x y z => zcfs s h x y z 16 0 zb72 rfl rfl
 have e2 := fun x y z => zcfr x y z 48 16 (fill s 0 16 zb72) rfl (Nat.le_refl _) (by rw [zche]; rfl)
 have e3 := fun x y => zcfq x y zb33 (zbmk s) zbwb (zbmj s) 64 0 (V8.ofL hs) rfl
 have e4 := fun x => zcfp x (zb98 zb33 (zbmk s) 0 64 (V8.ofL hs)).list rfl 8 0 hs rfl hl
 rw [zbu8 hs hl] at e3
 simp only [obz,l64,l8,if_true]
 refine (congrArg (· >>= _) (e1 _ _ _)).trans ?_
 refine (congrArg (· >>= _) (e2 _ _ _)).trans ?_
 refine (congrArg (· >>= _) (e3 _ _)).trans ?_
 refine (congrArg (· >>= _) (e4 _)).trans ?_
 show (if (wl (zbt6 hs s)).length = 8 then if (wl (zbt6 hs s)).length = 8 then some (wl (zbt6 hs s)) else none else none) = _
 rw [if_pos lb,if_pos lb]
def V8.tup (v : V8) : Int × Int × Int × Int × Int × Int × Int × Int := ((v.a.toNat : Int),(v.b.toNat : Int),(v.c.toNat : Int),(v.d.toNat : Int),(v.e.toNat : Int),(v.f.toNat : Int),(v.g.toNat : Int),(v.h.toNat : Int))
theorem zb24 (l : List Int) : (zaqe l).size = l.length := by
 show (zaqe l).data.size = _
 simp [zaqe]
theorem zc34 (l : List Int) (a k : Nat) : (zaqe l).extract a (a + k) = zaqe ((l.drop a).take k) := by
 apply ByteArray.ext
 apply Array.toList_inj.1
 rw [ByteArray.data_extract,Array.toList_extract,List.extract_eq_take_drop,Nat.add_sub_cancel_left]
 show List.take k (List.drop a (l.map fun n => UInt8.ofNat n.toNat)) = ((l.drop a).take k).map fun n => UInt8.ofNat n.toNat
 rw [List.map_take,List.map_drop]
theorem zc0l (n k : Nat) (z : Int) (hz : z = (k : Int)) : Int.tmod (n : Int) z = ((n % k : Nat) : Int) := by subst hz; rfl
theorem zb6f (x : ByteArray) (k : Nat) : ∀ l : List Int,(l.length + k) % 64 = 56 → k < 64 → l.length + k < 100000000000 → uj x l = some (l ++ List.replicate k 0) := by
 induction k with
 | zero =>
  intro l h hk hb
  rw [zcsy,jp,zc0l _ 64 64 rfl,if_pos (by omega),List.replicate_zero,List.append_nil]
  rfl
 | succ k ih =>
  intro l h hk hb
  rw [zcsy,jp,zc0l _ 64 64 rfl,if_neg (by omega),if_pos (by omega)]
  rw [obz,LS.go]
  have e := ih (l ++ [0]) (by rw [List.length_append]; show (l.length + 1 + k) % 64 = 56; omega) (by omega) (by rw [List.length_append]; show l.length + 1 + k < _; omega)
  rw [List.append_assoc] at e
  exact e
def sh8 (L : Int) (i : Nat) : Int := IntKind.u8.wrap (Int.fdiv L (2 ^ (56 - 8 * i)))
def lb (L : Int) : Nat → Nat → List Int
 | _,0 => []
 | i,n + 1 => sh8 L i :: lb L (i + 1) n
theorem w56 (i : Nat) (h : i < 8) : IntKind.i64.wrap ((56 : Int) - (IntKind.i64.wrap ((8 : Int) * (i : Int)))) = ((56 - 8 * i : Nat) : Int) := by
 rw [w64 (n := 8 * (i : Int)) (by omega) (by omega),w64 (by omega) (by omega)]; omega
theorem zdby (n : Nat) (h : n < 1000) : IntKind.u64.wrap (n : Int) = (n : Int) := by
 have : IntKind.u64.wrap (n : Int) = (n : Int) % 18446744073709551616 := by simp [IntKind.wrap,IntKind.bits,IntKind.signed]
 omega
theorem zce9 (n : Nat) (h : n ≤ 64) : Nat.min n IntKind.u64.bits = n := Nat.min_eq_left h
theorem zb6l (L : Int) (n : Nat) : ∀ (i : Nat) (l : List Int),n + i = 8 → l.length < 900000000000 + i → ui L l (i : Int) = some (l ++ lb L i n) := by
 induction n with
 | zero =>
  intro i l hi hb
  obtain rfl : i = 8 := by omega
  rw [zcsz,jo,if_neg (by decide),lb,List.append_nil]
  rfl
 | succ n ih =>
  intro i l hi hb
  rw [zcsz,jo,if_pos (by omega),w56 i (by omega),zdby _ (by omega),if_pos (by omega),Int.toNat_natCast,zce9 _ (by omega),if_pos (by omega),za53 i (by omega)]
  rw [obz,LS.go]
  have e := ih (i + 1) (l ++ [sh8 L i]) (by omega) (by rw [List.length_append]; show l.length + 1 < _; omega)
  rw [List.append_assoc] at e
  exact e
def zb5f : Nat → List Int → List W → List W
 | 0,_,hs => hs
 | n + 1,m,hs => zb5f n (m.drop 64) (zbt6 hs (zaqe (m.take 64)))
theorem zblo (n : Nat) : ∀ (m : List Int) (hs : List W),hs.length = 8 → (zb5f n m hs).length = 8 := by
 induction n with
 | zero => intro m hs h; exact h
 | succ n ih => intro m hs h; exact ih _ _ (zb8z _ _ h)
theorem zb58 (m : List Int) (t : Nat) (hm : m.length = 64 * t) (ht : t < 1000000000) (n : Nat) : ∀ (j : Nat) (hs : List W),n + j = t → hs.length = 8 → uh (zaqe m) (wl hs) ((64 * j : Nat) : Int) = some (wl (zb5f n (m.drop (64 * j)) hs)) := by
 induction n with
 | zero =>
  intro j hs hj hl
  rw [zcs0,jn,if_neg (by rw [zb24]; omega)]
  rfl
 | succ n ih =>
  intro j hs hj hl
  rw [zcs0,jn,if_pos (by rw [zb24]; omega),if_pos (by rw [zbwi]; exact hl),zb7z _ 64 64 rfl (by omega) (by omega)]
  rw [if_pos ⟨⟨by omega,by rw [zb24]; omega⟩,by omega,by omega⟩,Int.toNat_natCast,Int.toNat_natCast,zc34,zb2i hs _ hl (by rw [zb24,List.length_take,List.length_drop]; omega)]
  rw [obz,if_pos (by rw [zbwi,zb8z _ _ hl]),obz,LS.go]
  have e := ih (j + 1) (zbt6 hs (zaqe ((m.drop (64 * j)).take 64))) (by omega) (zb8z _ _ hl)
  rw [show 64 * (j + 1) = 64 * j + 64 from by omega,← List.drop_drop] at e
  exact e
def o4 (y : Int) : List Int := [(IntKind.u8.wrap (Int.fdiv y (2 ^ (Nat.min 24 IntKind.u32.bits)))),(IntKind.u8.wrap (Int.fdiv y (2 ^ (Nat.min 16 IntKind.u32.bits)))),(IntKind.u8.wrap (Int.fdiv y (2 ^ (Nat.min 8 IntKind.u32.bits)))),(IntKind.u8.wrap y)]
def zb3y (hs : List W) : Nat → Nat → List Int
 | _,0 => []
 | i,n + 1 => o4 ((hs.getD i 0).toNat : Int) ++ zb3y hs (i + 1) n
theorem zbu6 (hs : List W) (n : Nat) : ∀ i,(zb3y hs i n).length = 4 * n := by
 induction n with
 | zero => intro i; rfl
 | succ n ih => intro i; rw [zb3y,List.length_append,ih]; show 4 + 4 * n = _; omega
theorem zb6g (hs : List W) (hl : hs.length = 8) (n : Nat) : ∀ (i : Nat) (l : List Int),n + i = 8 → l.length ≤ 100 + 4 * i → ug (wl hs) l (i : Int) = some (l ++ zb3y hs i n) := by
 induction n with
 | zero =>
  intro i l hi hb
  obtain rfl : i = 8 := by omega
  rw [zcs1,jm,if_neg (by decide),zb3y,List.append_nil]
  rfl
 | succ n ih =>
  intro i l hi hb
  rw [zcs1,jm,if_pos (by omega),if_pos ⟨by omega,by omega⟩,zbjq hs i _ rfl (by omega)]
  rw [obz,if_pos (by omega),za53 i (by omega),obz,LS.go]
  have e := ih (i + 1) (l ++ o4 ((hs.getD i 0).toNat : Int)) (by omega) (by rw [List.length_append]; show l.length + 4 ≤ _; omega)
  rw [List.append_assoc] at e
  exact e
def H0 : List W := [1779033703,3144134277,1013904242,2773480762,1359893119,2600822924,528734635,1541459225]
def kz (n : Nat) : Nat := (120 - (n + 1) % 64) % 64
def zb2j (s : ByteArray) : Int := IntKind.u64.wrap ((IntKind.u64.wrap ((s.size : Nat) : Int)) * (8 : Int))
def zb7x (s : ByteArray) : List Int := ((qt s ++ [128]) ++ List.replicate (kz s.size) 0) ++ lb (zb2j s) 0 8
def zb3z (s : ByteArray) : Nat := (s.size + 1 + kz s.size + 8) / 64
def state (s : ByteArray) : List W := zb5f (zb3z s) (zb7x s) H0
def SHA (s : ByteArray) : ByteArray := zaqe (zb3y (state s) 0 8)
theorem zb6m (L : Int) (n : Nat) : ∀ i,(lb L i n).length = n := by
 induction n with
 | zero => intro i; rfl
 | succ n ih => intro i; rw [lb,List.length_cons,ih]
theorem zb6o (n : Nat) : (n + 1 + kz n) % 64 = 56 ∧ kz n < 64 := by unfold kz; omega
theorem zbkx (s : ByteArray) : (zb7x s).length = 64 * zb3z s := by
 have := zb6o s.size
 unfold zb7x zb3z
 rw [List.length_append,List.length_append,List.length_append,zb6m,List.length_replicate,ay]
 show s.size + 1 + kz s.size + 8 = _
 omega
theorem zbnu (s : ByteArray) : (state s).length = 8 := zblo _ _ _ rfl
theorem zb8c (s : ByteArray) : (SHA s).size = 32 := by rw [SHA,zb24,zbu6]
theorem zbxw (s : ByteArray) (h : s.size < 10000000000) : zb0j s = some (SHA s) := by
 have kk := zb6o s.size
 have l1 : (qt s ++ [128]).length = s.size + 1 := by rw [List.length_append,ay]; rfl
 have e1 := zb6f s (kz s.size) (qt s ++ [128]) (by rw [l1]; exact kk.1) kk.2 (by omega)
 have e2 := zb6l (zb2j s) 8 0 ((qt s ++ [128]) ++ List.replicate (kz s.size) 0) rfl (by rw [List.length_append,List.length_replicate]; omega)
 have e3 := zb58 (zb7x s) (zb3z s) (zbkx s) (by unfold zb3z; omega) (zb3z s) 0 H0 rfl rfl
 have e4 := zb6g (state s) (zbnu s) 8 0 [] rfl (by show 0 ≤ _; omega)
 have be : (uj s (qt s ++ [128]) >>= fun y16 => ui (zb2j s) y16 (0 : Int) >>= fun y18 => uh (zaqe y18) (wl H0) (0 : Int) >>= fun y20 => ug y20 [] (0 : Int) >>= fun y22 => some (zaqe y22)) = some (SHA s) := by
  refine (congrArg (· >>= _) e1).trans ?_
  refine (congrArg (· >>= _) e2).trans ?_
  refine (congrArg (· >>= _) e3).trans ?_
  refine (congrArg (· >>= _) e4).trans ?_
  rfl
 unfold zb0j
 by_cases z : s.size = 0
 · rw [if_pos z]
   have b0 : qt s = [] := List.eq_nil_of_length_eq_zero (by rw [ay]; exact z)
   rw [b0] at be
   exact be
 · rw [if_neg z,if_pos (by omega)]
   exact be
def SH (s : ByteArray) : ByteArray := (SHA s).extract 0 16
theorem zbt8 (s : ByteArray) : (SH s).size = 16 := by unfold SH; rw [ByteArray.size_extract,zb8c]; rfl
theorem zb79 (s : ByteArray) (hs : s.size < 10000000000) : sb s = some (SH s) := by
 unfold sb
 rw [zbxw s hs,obz,if_pos ⟨by omega,by rw [zb8c]; omega⟩]; rfl
def SEC (j4 : ByteArray) (k i b : Int) : ByteArray := SH (j4 ++ zaqe [IntKind.u8.wrap k,IntKind.u8.wrap i,IntKind.u8.wrap b])
def VAL (j4 : ByteArray) (k i b : Int) : ByteArray := if 0 ≤ k ∧ k ≤ 255 ∧ 0 ≤ i ∧ i < 16 ∧ 0 ≤ b ∧ b < 2 then SEC j4 k i b else ⟨#[]⟩
theorem zbw8 (a b c : Int) : (zaqe [a,b,c]).size = 3 := zb24 _
theorem zbwz (j4 : ByteArray) (hs : j4.size < 100000) (k i b : Int) : yu j4 k i b = some (VAL j4 k i b) := by
 unfold yu VAL
 by_cases c0 : k < 0
 · rw [if_pos c0,if_neg (by omega)]
 · rw [if_neg c0]
   by_cases c1 : 255 < k
   · rw [if_pos c1,if_neg (by omega)]
   · rw [if_neg c1]
     by_cases c2 : i < 0
     · rw [if_pos c2,if_neg (by omega)]
     · rw [if_neg c2]
       by_cases c3 : 16 ≤ i
       · rw [if_pos c3,if_neg (by omega)]
       · rw [if_neg c3]
         by_cases c4 : b < 0
         · rw [if_pos c4,if_neg (by omega)]
         · rw [if_neg c4]
           by_cases c5 : 1 < b
           · rw [if_pos c5,if_neg (by omega)]
           · rw [if_neg c5,if_pos (by rw [zbw8]; omega),zb79 _ (by rw [ByteArray.size_append,zbw8]; omega),obz,if_pos (by omega)]; rfl
def cat (f : Nat → ByteArray) : Nat → Nat → ByteArray → ByteArray
 | _,0,acc => acc
 | i,n + 1,acc => cat f (i + 1) n (acc ++ f i)
theorem zbvy (f : Nat → ByteArray) (hf : ∀ i,i < 16 → (f i).size = 32) (n : Nat) : ∀ (i : Nat) (acc : ByteArray),n + i = 16 → (cat f i n acc).size = acc.size + 32 * n := by
 induction n with
 | zero => intro i acc h; rfl
 | succ n ih => intro i acc h; rw [cat,ih (i + 1) _ (by omega),ByteArray.size_append,hf i (by omega)]; omega
def isK (k : Int) : Prop := 0 ≤ k ∧ k ≤ 255
instance (k : Int) : Decidable (isK k) := inferInstanceAs (Decidable (0 ≤ k ∧ k ≤ 255))
theorem zbzi (j4 : ByteArray) (k i b : Int) : (VAL j4 k i b).size ≤ 16 := by
 unfold VAL
 split
 · exact Nat.le_of_eq (zbt8 _)
 · exact Nat.zero_le _
def zb6c (j4 : ByteArray) (k : Int) (i : Nat) : ByteArray := SH (VAL j4 k (i : Int) 0) ++ SH (VAL j4 k (i : Int) 1)
def PUB (j4 : ByteArray) (k : Int) : ByteArray := SH (cat (zb6c j4 k) 0 16 ⟨#[]⟩)
theorem zbpj (j4 : ByteArray) (k : Int) (i : Nat) : (zb6c j4 k i).size = 32 := by unfold zb6c; rw [ByteArray.size_append,zbt8,zbt8]
theorem zbpk (j4 : ByteArray) (k : Int) : (cat (zb6c j4 k) 0 16 ⟨#[]⟩).size = 512 := by rw [zbvy _ (fun i _ => zbpj j4 k i) 16 0 _ rfl]; rfl
theorem zb6d (j4 : ByteArray) (hs : j4.size < 100000) (k : Int) (n : Nat) : ∀ (i : Nat) (acc : ByteArray),n + i = 16 → acc.size ≤ 32 * i → uf j4 k acc (i : Int) = some (cat (zb6c j4 k) i n acc) := by
 induction n with
 | zero =>
  intro i acc h ha
  rw [zcuo,gn,if_neg (by omega)]
  rfl
 | succ n ih =>
  intro i acc h ha
  have v1 := zbzi j4 k (i : Int) 0
  have v2 := zbzi j4 k (i : Int) 1
  rw [zcuo,gn,if_pos (by omega),zbwz j4 hs,obz,zb79 _ (by omega),obz,if_pos (by rw [zbt8]; omega),zbwz j4 hs,obz,zb79 _ (by omega),obz,if_pos (by rw [zbt8,ByteArray.size_append,zbt8]; omega),za53 i (by omega),obz,LS.go,ByteArray.append_assoc]
  exact ih (i + 1) _ (by omega) (by rw [ByteArray.size_append,ByteArray.size_append,zbt8,zbt8]; omega)
theorem zb6e (j4 : ByteArray) (hs : j4.size < 100000) (k : Int) : z8 j4 k = some (if isK k then PUB j4 k else ⟨#[]⟩) := by
 unfold z8
 by_cases c0 : k < 0
 · rw [if_pos c0,if_neg (by unfold isK; omega)]
 · rw [if_neg c0]
   by_cases c1 : 255 < k
   · rw [if_pos c1,if_neg (by unfold isK; omega)]
   · have c : isK k := ⟨by omega,by omega⟩
     rw [if_neg c1,if_pos c]
     refine (congrArg (fun x => (x >>= _)) (zb6d j4 hs k 16 0 ⟨#[]⟩ rfl (Nat.zero_le _))).trans ?_
     rw [obz,zb79 _ (by rw [zbpk]; decide)]
     rfl
open Go Go.RowKit Sh Ic
def zbmb (s : ByteArray) : Bool := decide (1 ≤ s.size) && decide (s.size ≤ 16)
def inB (n lo hi : Int) : Bool := decide (lo ≤ n) && decide (n ≤ hi)
theorem yj {n lo hi : Int} : inB n lo hi = true ↔ lo ≤ n ∧ n ≤ hi := by unfold inB; rw [Bool.and_eq_true,decide_eq_true_iff,decide_eq_true_iff]
theorem zb3e {s : ByteArray} : zbmb s = true ↔ 1 ≤ s.size ∧ s.size ≤ 16 := by unfold zbmb; rw [Bool.and_eq_true,decide_eq_true_iff,decide_eq_true_iff]
theorem zbqc (s : ByteArray) : t7 s = some (zbmb s) := by
 unfold t7 zbmb
 by_cases h : 1 ≤ s.size
 · rw [if_pos (by omega),decide_eq_true h,Bool.true_and]
   congr 1
   exact decide_eq_decide.2 ⟨fun _ => by omega,fun _ => by omega⟩
 · rw [if_neg (by omega),decide_eq_false h,Bool.false_and]
theorem zbt2 (n lo hi : Int) : nw n lo hi = some (inB n lo hi) := by
 unfold nw inB
 by_cases h : lo ≤ n
 · rw [if_pos h,decide_eq_true h,Bool.true_and]
 · rw [if_neg h,decide_eq_false h,Bool.false_and]
theorem zcha {α : Type} (l : List α) (p : α → Bool) (i : Nat) (h : i < l.length) : (l.drop i).any p = (p l[i] || (l.drop (i + 1)).any p) := by
 rw [List.drop_eq_getElem_cons h,List.any_cons]
theorem zdb1 (l : List ByteArray) (c : Int) (hl : l.length < 1000000) (n : Nat) : ∀ i : Nat,n + i = l.length → ∃ r,cp l c (l.length : Nat) (i : Int) = some r ∧
 ((∃ v,r = .rt v ∧ 0 ≤ v ∧ ((l.drop i).any fun x => decide (¬ ((x.size : Nat) : Int) = c)) = true) ∨ (r = .ex () ∧ ((l.drop i).any fun x => decide (¬ ((x.size : Nat) : Int) = c)) = false)) := by
 induction n with
 | zero =>
  intro i h
  refine ⟨.ex (),?_,.inr ⟨rfl,?_⟩⟩
  · rw [mh,bg,if_neg (by omega),obz,LS.go]
  · rw [List.drop_of_length_le (by omega)]; rfl
 | succ n ih =>
  intro i h
  have hi : i < l.length := by omega
  rw [mh,bg,if_pos (by omega),zbme hi,obz,wj,obz,zcha _ _ _ hi]
  by_cases p : decide (¬ ((l[i].size : Nat) : Int) = c) = true
  · rw [if_pos p,obz,LS.go]
    exact ⟨_,rfl,.inl ⟨_,rfl,by omega,by rw [p]; rfl⟩⟩
  · have p' := Bool.eq_false_iff.2 p
    rw [if_neg p,obz,LS.go,za53 i (by omega),p',Bool.false_or]
    exact ih (i + 1) (by omega)
theorem zcfm (l : List ByteArray) (c : Int) (hl : l.length < 1000000) : cq l c = some (l.any fun x => decide (¬ ((x.size : Nat) : Int) = c)) := by
 obtain ⟨r,h,q⟩ := zdb1 l c hl l.length 0 rfl
 rw [List.drop_zero] at q
 have h : cp l c (l.length : Nat) 0 = some r := h
 unfold cq ei
 rw [h,obz]
 rcases q with ⟨v,rfl,h0,q⟩ | ⟨rfl,q⟩
 · show some (decide (0 ≤ v)) = _
   rw [q,decide_eq_true h0]
 · show some (decide ((0 : Int) ≤ -1)) = _
   rw [q]; rfl
def zbz9 (l : List ByteArray) (n sz : Int) : Bool := decide ((l.length : Int) = n) && !l.any fun x => decide (¬ ((x.size : Nat) : Int) = sz)
theorem zbn0 (l : List ByteArray) (n sz : Int) (hn : n < 1000000) : t6 l n sz = some (zbz9 l n sz) := by
 unfold t6 zbz9
 by_cases h : (l.length : Int) = n
 · rw [if_pos h,zcfm l sz (by omega),obz,decide_eq_true h,Bool.true_and]
 · rw [if_neg h,decide_eq_false h,Bool.false_and]
theorem zb4s {l : List ByteArray} {n sz : Int} : zbz9 l n sz = true ↔ (l.length : Int) = n ∧ ∀ x ∈ l,(x.size : Int) = sz := by
 unfold zbz9
 rw [Bool.and_eq_true,decide_eq_true_iff,Bool.not_eq_true',List.any_eq_false]
 refine and_congr_right fun _ => ⟨fun h x hx => ?_,fun h x hx => ?_⟩
 · have := h x hx
   simpa using this
 · simpa using h x hx
def zbjl (n : Int) (a : af) : Bool := inB a.From 0 (n - 1) && (inB a.To 0 (n - 1) && (decide (a.From ≠ a.To) && (inB a.Ledger 0 3 && (zbmb a.Asset && inB a.Amount 1 1125899906842624))))
theorem zcft (a : af) (n : Int) (hn : 0 ≤ n ∧ n < 1000000) : zb3f a n = some (zbjl n a) := by
 unfold zb3f zbjl
 have w : IntKind.i64.wrap (n - 1) = n - 1 := wA (by omega) (by omega)
 rw [w,zbt2,obz]
 cases inB a.From 0 (n - 1) with
 | false => rfl
 | true =>
  rw [if_pos rfl,zbt2,obz]
  cases inB a.To 0 (n - 1) with
  | false => rfl
  | true =>
   rw [if_pos rfl]
   by_cases e : a.From = a.To
   · rw [if_pos e,decide_eq_false (fun h => h e)]; rfl
   · rw [if_neg e,decide_eq_true e,zbt2,obz]
     cases inB a.Ledger 0 3 with
     | false => rfl
     | true =>
      rw [if_pos rfl,zbqc,obz]
      cases zbmb a.Asset with
      | false => rfl
      | true => rw [if_pos rfl,zbt2,obz]; rfl
def zbj5 (nl : Int) (p : ac) : Bool := zbmb p.Account && zbz9 p.Keys nl 16
theorem zcg9 {α : Type} (l : List α) (p : α → Bool) (i : Nat) (h : i < l.length) : (l.drop i).all p = (p l[i] && (l.drop (i + 1)).all p) := by
 rw [List.drop_eq_getElem_cons h,List.all_cons]
theorem zdb6 (s : aq) (np nl : Int) (hnl : nl < 1000000) (hp : s.Parties.length < 1000000) (n : Nat) : ∀ i : Nat,n + i = s.Parties.length →
 ny s np nl s.Parties (s.Parties.length : Nat) ((s.Parties.take i).map ac.Account) (i : Int) = some (if (s.Parties.drop i).all (zbj5 nl) = true then .ex (s.Parties.map ac.Account) else .rt false) := by
 induction n with
 | zero =>
  intro i h
  rw [zcuw,gi,if_neg (by omega),obz,LS.go,List.drop_of_length_le (by omega),List.take_of_length_le (by omega)]; rfl
 | succ n ih =>
  intro i h
  have hi : i < s.Parties.length := by omega
  rw [zcuw,gi,if_pos (by omega),zbme hi,obz,zbqc,obz,zcg9 _ _ _ hi]
  unfold zbj5
  cases zbmb s.Parties[i].Account with
  | false => rfl
  | true =>
   rw [if_pos rfl,zbn0 _ _ _ hnl,obz]
   cases zbz9 s.Parties[i].Keys nl 16 with
   | false => rfl
   | true =>
    have e : (s.Parties.take i).map ac.Account ++ [s.Parties[i].Account] = (s.Parties.take (i + 1)).map ac.Account := by
     rw [List.take_succ_eq_append_getElem hi,List.map_append]; rfl
    rw [if_pos rfl,if_pos (by rw [List.length_map,List.length_take]; omega),obz,LS.go,za53 i (by omega)]
    show ny s np nl s.Parties _ ((s.Parties.take i).map ac.Account ++ [s.Parties[i].Account]) _ = _
    rw [e,ih (i + 1) (by omega)]
    rfl
def ways (l : List af) : List fo := l.map fun a => ⟨a.From,a.To⟩
theorem zdb5 (s : aq) (np : Int) (acc : List ByteArray) (hnp : 0 ≤ np ∧ np < 1000000) (hp : s.Arcs.length < 1000000) (n : Nat) : ∀ i : Nat,n + i = s.Arcs.length →
 l4 s np acc s.Arcs (s.Arcs.length : Nat) (ways (s.Arcs.take i)) (i : Int) = some (if (s.Arcs.drop i).all (zbjl np) = true then .ex (ways s.Arcs) else .rt false) := by
 induction n with
 | zero =>
  intro i h
  rw [zcux,gh,if_neg (by omega),obz,LS.go,List.drop_of_length_le (by omega),List.take_of_length_le (by omega)]; rfl
 | succ n ih =>
  intro i h
  have hi : i < s.Arcs.length := by omega
  rw [zcux,gh,if_pos (by omega),zbme hi,obz,zcft _ _ hnp,obz,zcg9 _ _ _ hi]
  show (if zbjl np s.Arcs[i] = true then _ else _ : Option _) >>= _ = _
  cases zbjl np s.Arcs[i] with
  | false => rfl
  | true =>
   have e : ways (s.Arcs.take i) ++ [(⟨s.Arcs[i].From,s.Arcs[i].To⟩ : fo)] = ways (s.Arcs.take (i + 1)) := by
    unfold ways; rw [List.take_succ_eq_append_getElem hi,List.map_append]; rfl
   rw [if_pos rfl,if_pos (by unfold ways; rw [List.length_map,List.length_take]; omega),obz,LS.go,za53 i (by omega)]
   show l4 s np acc s.Arcs _ (ways (s.Arcs.take i) ++ [(⟨s.Arcs[i].From,s.Arcs[i].To⟩ : fo)]) _ = _
   rw [e,ih (i + 1) (by omega)]
   rfl
open Go Go.RowKit Sh Ic
theorem zdb2 (l : List Int) (c : Int) (hc : 0 ≤ c ∧ c < 1000000) (hl : l.length < 1000000) (n : Nat) : ∀ i : Nat,n + i = l.length → ∃ r,d8 l c (l.length : Nat) (i : Int) = some r ∧
 ((∃ v,r = .rt v ∧ 0 ≤ v ∧ ((l.drop i).any fun x => !inB x 0 (c - 1)) = true) ∨ (r = .ex () ∧ ((l.drop i).any fun x => !inB x 0 (c - 1)) = false)) := by
 have w : IntKind.i64.wrap (c - 1) = c - 1 := wA (by omega) (by omega)
 induction n with
 | zero =>
  intro i h
  refine ⟨.ex (),?_,.inr ⟨rfl,?_⟩⟩
  · rw [pn,br,if_neg (by omega),obz,LS.go]
  · rw [List.drop_of_length_le (by omega)]; rfl
 | succ n ih =>
  intro i h
  have hi : i < l.length := by omega
  rw [pn,br,if_pos (by omega),zbme hi,obz,wv,w,zbt2,obz,obz,zcha _ _ _ hi]
  by_cases p : (!inB l[i] 0 (c - 1)) = true
  · rw [if_pos p,obz,LS.go]
    exact ⟨_,rfl,.inl ⟨_,rfl,by omega,by rw [p]; rfl⟩⟩
  · have p' := Bool.eq_false_iff.2 p
    rw [if_neg p,obz,LS.go,za53 i (by omega),p',Bool.false_or]
    exact ih (i + 1) (by omega)
theorem zcfn (l : List Int) (c : Int) (hc : 0 ≤ c ∧ c < 1000000) (hl : l.length < 1000000) : d9 l c = some (l.any fun x => !inB x 0 (c - 1)) := by
 obtain ⟨r,h,q⟩ := zdb2 l c hc hl l.length 0 rfl
 rw [List.drop_zero] at q
 have h : d8 l c (l.length : Nat) 0 = some r := h
 unfold d9 gz
 rw [h,obz]
 rcases q with ⟨v,rfl,h0,q⟩ | ⟨rfl,q⟩
 · show some (decide (0 ≤ v)) = _
   rw [q,decide_eq_true h0]
 · show some (decide ((0 : Int) ≤ -1)) = _
   rw [q]; rfl
structure Ok (s : aq) : Prop where
 id : zbmb s.ID = true
 np : 2 ≤ s.Parties.length ∧ s.Parties.length ≤ 6
 nl : 1 ≤ s.Leaders.length ∧ s.Leaders.length ≤ 3
 na : 1 ≤ s.Arcs.length ∧ s.Arcs.length ≤ 12
 locks : s.Locks.length = s.Leaders.length ∧ ∀ x ∈ s.Locks,x.size = 32
 start : 0 ≤ s.Start ∧ s.Start ≤ 1099511627776
 delta : 1 ≤ s.Delta ∧ s.Delta ≤ 1048576
 parties : ∀ p ∈ s.Parties,zbj5 (s.Leaders.length : Nat) p = true
 arcs : ∀ a ∈ s.Arcs,zbjl (s.Parties.length : Nat) a = true
 accts : (s.Parties.map ac.Account).Nodup
 ways : (s.Arcs.map fun a => (a.From,a.To)).Nodup
 leads : s.Leaders.Nodup
 inl : ∀ v ∈ s.Leaders,0 ≤ v ∧ v < s.Parties.length
structure Wf (s : aq) : Prop where
 leads : ∀ v ∈ s.Leaders,j7 v = true
 start : j7 s.Start = true
 delta : j7 s.Delta = true
theorem zb36 {n : Int} (h1 : -9223372036854775808 ≤ n) (h2 : n ≤ 9223372036854775807) : j7 n = true := by
 unfold j7; rw [decide_eq_true h1,decide_eq_true h2]; rfl
open Classical in
noncomputable def okS (s : aq) : Bool := decide (Ok s)
open Classical in
theorem zb4f {s : aq} (h : Ok s) : okS s = true := by unfold okS; exact decide_eq_true h
open Classical in
theorem pb {s : aq} (h : ¬ Ok s) : okS s = false := by unfold okS; exact decide_eq_false h
open Classical in
theorem zb1h {s : aq} : okS s = true ↔ Ok s := by unfold okS; exact decide_eq_true_iff
theorem zb90 (s : aq) (hw : Wf s) : l5 s = some (okS s) := by
 unfold l5
 rw [zbqc,obz]
 by_cases h1 : zbmb s.ID = true
 rotate_left
 · rw [if_neg h1,pb fun h => h1 h.id]
 rw [if_pos h1,zbt2,obz]
 by_cases h2 : inB (s.Parties.length : Nat) 2 6 = true
 rotate_left
 · rw [if_neg h2,pb fun h => h2 (yj.2 ⟨by have := h.np; omega,by have := h.np; omega⟩)]
 have h2' := yj.1 h2
 rw [if_pos h2,zbt2,obz]
 by_cases h3 : inB (s.Leaders.length : Nat) 1 3 = true
 rotate_left
 · rw [if_neg h3,pb fun h => h3 (yj.2 ⟨by have := h.nl; omega,by have := h.nl; omega⟩)]
 have h3' := yj.1 h3
 rw [if_pos h3,zbt2,obz]
 by_cases h4 : inB (s.Arcs.length : Nat) 1 12 = true
 rotate_left
 · rw [if_neg h4,pb fun h => h4 (yj.2 ⟨by have := h.na; omega,by have := h.na; omega⟩)]
 have h4' := yj.1 h4
 rw [if_pos h4,zbn0 _ _ _ (by omega),obz]
 by_cases h5 : zbz9 s.Locks (s.Leaders.length : Nat) 32 = true
 rotate_left
 · rw [if_neg h5,pb fun h => h5 (zb4s.2 ⟨by have := h.locks.1; omega,fun x hx => by have := h.locks.2 x hx; omega⟩)]
 have h5' := zb4s.1 h5
 rw [if_pos h5,zbt2,obz]
 by_cases h6 : inB s.Start 0 1099511627776 = true
 rotate_left
 · rw [if_neg h6,pb fun h => h6 (yj.2 h.start)]
 rw [if_pos h6,zbt2,obz]
 by_cases h7 : inB s.Delta 1 1048576 = true
 rotate_left
 · rw [if_neg h7,pb fun h => h7 (yj.2 h.delta)]
 have e1 := zdb6 s (s.Parties.length : Nat) (s.Leaders.length : Nat) (by omega) (by omega) s.Parties.length 0 rfl
 have e1 : ny s (s.Parties.length : Nat) (s.Leaders.length : Nat) s.Parties (s.Parties.length : Nat) [] 0 = _ := e1
 rw [if_pos h7,e1,obz,List.drop_zero]
 by_cases h8 : s.Parties.all (zbj5 (s.Leaders.length : Nat)) = true
 rotate_left
 · rw [if_neg h8,pb fun h => h8 (List.all_eq_true.2 h.parties)]
 rw [if_pos h8]
 have h8' := List.all_eq_true.1 h8
 have e2 := zdb5 s (s.Parties.length : Nat) (s.Parties.map ac.Account) (by omega) (by omega) s.Arcs.length 0 rfl
 have e2 : l4 s (s.Parties.length : Nat) (s.Parties.map ac.Account) s.Arcs (s.Arcs.length : Nat) [] 0 = _ := e2
 show l4 s (s.Parties.length : Nat) (s.Parties.map ac.Account) s.Arcs (s.Arcs.length : Nat) [] 0 >>= _ = _
 rw [e2,obz,List.drop_zero]
 by_cases h9 : s.Arcs.all (zbjl (s.Parties.length : Nat)) = true
 rotate_left
 · rw [if_neg h9,pb fun h => h9 (List.all_eq_true.2 h.arcs)]
 rw [if_pos h9]
 have h9' := List.all_eq_true.1 h9
 show o8 (s.Parties.map ac.Account) >>= _ = _
 have o1 : o8 (s.Parties.map ac.Account) = some (decide (s.Parties.map ac.Account).Nodup) := if_pos ⟨by rw [List.length_map]; omega,fun x hx => by
  obtain ⟨p,hp,rfl⟩ := List.mem_map.1 hx
  have := h8' p hp
  unfold zbj5 at this
  rw [Bool.and_eq_true,zb3e] at this
  omega⟩
 rw [o1,obz]
 by_cases h10 : (s.Parties.map ac.Account).Nodup
 rotate_left
 · rw [if_neg (by rw [decide_eq_true_iff]; exact h10),pb fun h => h10 h.accts]
 rw [if_pos (decide_eq_true h10)]
 have em : (ways s.Arcs).map two = s.Arcs.map fun a => (a.From,a.To) := by unfold ways; rw [List.map_map]; rfl
 have o2 : uq (ways s.Arcs) = some (decide ((s.Arcs.map fun a => (a.From,a.To)).Nodup)) := by
  rw [← em]
  exact if_pos ⟨by unfold ways; rw [List.length_map]; omega,fun x hx => by
   obtain ⟨a,ha,rfl⟩ := List.mem_map.1 hx
   have := h9' a ha
   unfold zbjl at this
   rw [Bool.and_eq_true,Bool.and_eq_true,yj,yj] at this
   rw [Bool.and_eq_true]
   exact ⟨zb36 (by show _ ≤ a.From; omega) (by show a.From ≤ _; omega),zb36 (by show _ ≤ a.To; omega) (by show a.To ≤ _; omega)⟩⟩
 rw [o2,obz]
 by_cases h11 : (s.Arcs.map fun a => (a.From,a.To)).Nodup
 rotate_left
 · rw [if_neg (by rw [decide_eq_true_iff]; exact h11),pb fun h => h11 h.ways]
 have o3 : zb9t s.Leaders = some (decide s.Leaders.Nodup) := if_pos ⟨by omega,hw.leads⟩
 rw [if_pos (decide_eq_true h11),o3,obz]
 by_cases h12 : s.Leaders.Nodup
 rotate_left
 · rw [if_neg (by rw [decide_eq_true_iff]; exact h12),pb fun h => h12 h.leads]
 rw [if_pos (decide_eq_true h12),zcfn _ _ ⟨by omega,by omega⟩ (by omega),obz]
 cases h13 : s.Leaders.any fun x => !inB x 0 ((s.Parties.length : Nat) - 1) with
 | true =>
  rw [pb fun h => by
   rw [List.any_eq_true] at h13
   obtain ⟨x,hx,h13⟩ := h13
   have := h.inl x hx
   rw [Bool.not_eq_true',← Bool.not_eq_true,yj] at h13
   omega]
  rfl
 | false =>
  rw [List.any_eq_false] at h13
  rw [zb4f ⟨h1,⟨by omega,by omega⟩,⟨by omega,by omega⟩,⟨by omega,by omega⟩,⟨by omega,fun x hx => by have := h5'.2 x hx; omega⟩,yj.1 h6,yj.1 h7,h8',h9',h10,h11,h12,fun v hv => by
   have := h13 v hv
   rw [Bool.not_eq_true',Bool.not_eq_false,yj] at this
   omega⟩]
  rfl
theorem zcfb {f : Nat → Option (LX Unit Bool)} {N : Nat} {P : Nat → Prop} (he : f N = some (.ex ())) (hs : ∀ k,k < N → P k → f k = f (k + 1)) (hb : ∀ k,k < N → ¬ P k → f k = some (.rt false)) :
 (f 0 = some (.ex ()) ∧ ∀ j,j < N → P j) ∨ (f 0 = some (.rt false) ∧ ∃ j,j < N ∧ ¬ P j) := by
 have go : ∀ n k,n + k = N → (f k = some (.ex ()) ∧ ∀ j,k ≤ j → j < N → P j) ∨ (f k = some (.rt false) ∧ ∃ j,j < N ∧ ¬ P j) := by
  intro n
  induction n with
  | zero =>
   intro k h
   obtain rfl : k = N := by omega
   exact .inl ⟨he,fun j h1 h2 => by omega⟩
  | succ n ih =>
   intro k h
   by_cases p : P k
   · rw [hs k (by omega) p]
     rcases ih (k + 1) (by omega) with ⟨h1,h2⟩ | h1
     · refine .inl ⟨h1,fun j h3 h4 => ?_⟩
       by_cases e : j = k
       · rw [e]; exact p
       · exact h2 j (by omega) h4
     · exact .inr h1
   · exact .inr ⟨hb k (by omega) p,k,by omega,p⟩
 rcases go N 0 rfl with ⟨h1,h2⟩ | h
 · exact .inl ⟨h1,fun j h => h2 j (Nat.zero_le _) h⟩
 · exact .inr h
theorem zbwe {α : Type} {l : List α} {i : Nat} {x : α} (h : l[i]? = some x) : i < l.length ∧ ixL l (i : Int) = some x := by
 obtain ⟨h1,h2⟩ := List.getElem?_eq_some_iff.1 h
 exact ⟨h1,by rw [zbme h1,h2]⟩
theorem zb2k {α : Type} {l : List α} {i : Nat} (h : i < l.length) : ∃ x,l[i]? = some x := ⟨_,List.getElem?_eq_getElem h⟩
end Go.Proofs.Ytdcfoaafkppojaa
