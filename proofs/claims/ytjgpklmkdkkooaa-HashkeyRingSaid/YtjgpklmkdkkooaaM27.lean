import Derived.Test.YtjgpklmkdkkooaaD8
set_option linter.unusedVariables false
set_option linter.unusedSimpArgs false
set_option linter.unusedSectionVars false
open Nat (reduceEqDiff reduceAdd reduceLT)
open Int (reduceToNat reduceEq)
namespace Go.Proofs.Ytjgpklmkdkkooaa
open Go Go.RowKit Sh Ic
noncomputable def eh (v0 : Int) (v1 : af) (v2 : ah) (v3 : Int) : Option (LS (ah × Int) (LX (ah) (Bool × ah))) :=
 if v3 < v0 then
  if ¬ v0 = 0 then
   if ((v2.Path.length : Nat) : Int) = (IntKind.i64.wrap (v3 + (1 : Int))) then
    ixL v2.Path (0 : Int) >>= fun y4 =>
    if y4 = (Int.tmod (IntKind.i64.wrap (v0 - v3)) v0) then
     d5 v0 v1 v2 v3 (Int.tmod (IntKind.i64.wrap (v0 - v3)) v0) (0 : Int) >>= fun y7 =>
     match y7 with
     | .ex w8 =>
      rh (Int.tmod (IntKind.i64.wrap ((IntKind.i64.wrap ((Int.tmod (IntKind.i64.wrap (v0 - v3)) v0) + v0)) - (1 : Int))) v0) >>= fun y12 =>
      n7 v1 v2 (Int.tmod (IntKind.i64.wrap ((IntKind.i64.wrap ((Int.tmod (IntKind.i64.wrap (v0 - v3)) v0) + v0)) - (1 : Int))) v0) y12 >>= fun y14 =>
      some (.nx (y14,(IntKind.i64.wrap (v3 + (1 : Int)))))
     | .rt w10 =>
      some (.dn (.rt (w10,v2)))
    else
    some (.dn (.rt (false,v2)))
   else
   some (.dn (.rt (false,v2)))
  else
   none
 else
 some (.dn (.ex v2))
noncomputable def jo (v0 : Int) (v1 : af) (v2 : ah) (v3 : Int) : Option (LX (ah) (Bool × ah)):=oq (fun st => eh v0 v1 st.1 st.2) (v2,v3)
theorem zc37 (v0 : Int) (v1 : af) (v2 : ah) (v3 : Int) : jo v0 v1 v2 v3 = eh v0 v1 v2 v3 >>= LS.go (fun st => jo v0 v1 st.1 st.2):=ew (fun st => eh v0 v1 st.1 st.2) (v2,v3)
def qn (v0 : Int) (v1 : af) (v2 : ah) (v3 : Int) (r : LX (ah) (Bool × ah)) : Prop:=∀ (τ : TH) (o0 : Nat) (o1 : Nat) (hl : τ.lock ≤ τ.next) (ha0 : τ.at o0 = some ⟨bh,v1.cells⟩) (hi0 : o0 < τ.next) (ha1 : τ.at o1 = some ⟨d8,v2.cells⟩) (hi1 : o1 < τ.next) (hw1 : τ.lock ≤ o1) (hn0_1 : o0 ≠ o1) (Q : TEx → ap) (hQ0 : ∀ v : ah,r = (.ex v) → ∀ (fr : TF) (tk2 : TK) (τ2 : TH),lkp fr 3 = .int .i64 v0 → lkp fr 4 = .ptr o0 0 → lkp fr 5 = .ptr o1 0 → tk2.take 0 = [] → τ2.cut τ.next = (τ.put o1 ⟨d8,v.cells⟩) → Q (.exit 0) fr tk2 τ2) (hQ1 : ∀ v : (Bool × ah),r = (.rt v) → ∀ (tk2 : TK) (τ2 : TH),τ2.cut τ.next = (τ.put o1 ⟨d8,[.int .i64 v.2.Lock,.str v.2.Secret,.sl (List.map (TV.int .i64) v.2.Path),.sl (List.map TV.str v.2.Sigs)]⟩) → Q .ret [(2,.bool v.1)] tk2 τ2) ,tW G (.loop [3,4,5,6] ir) Q [(3,.int .i64 v0),(4,.ptr o0 0),(5,.ptr o1 0),(6,.int .i64 v3)] [] τ
set_option maxRecDepth 100000 in
set_option maxHeartbeats 4000000 in
theorem zdei (v0 : Int) (v1 : af) (v2 : ah) (v3 : Int) (r : LX (ah) (Bool × ah)) (h : jo v0 v1 v2 v3 = some r) : qn v0 v1 v2 v3 r:=by
 refine di (f:=fun st => eh v0 v1 st.1 st.2) (P:=fun st r => ∀ (v2 : ah) (v3 : Int),(v2,v3) = st → qn v0 v1 v2 v3 r) ?_ h v2 v3 rfl
 clear h r v3 v2
 intro st o h r ih v2 v3 hst τ o0 o1  hl ha0 hi0 ha1 hi1 hw1 hn0_1 Q hQ0 hQ1
 subst hst
 have h : eh v0 v1 v2 v3 = some o:=h
 unfold eh at h
 refine mo fun LQ hn hr he => ?_
 by_cases c1 : v3 < v0
 · rw [if_pos c1] at h
   obtain ⟨c2,h⟩:=ifS h
   by_cases c3 : ((v2.Path.length : Nat) : Int) = (IntKind.i64.wrap (v3 + (1 : Int)))
   · rw [if_pos c3] at h
     obtain ⟨y4,hy4,h⟩:=ob h
     have f5:=av hy4
     have f5a:=(f5.2.2 (TV.int .i64)).1
     have f5b:=(f5.2.2 (TV.int .i64)).2
     try simp only [reduceToNat] at f5 f5a f5b
     by_cases c6 : y4 = (Int.tmod (IntKind.i64.wrap (v0 - v3)) v0)
     · rw [if_pos c6] at h
       obtain ⟨y7,hy7,h⟩:=ob h
       simp only [ir,dx,TT,Ic.t,ci,reduceEqDiff,reduceCtorEq,ha1,c1,c2,eq_true c3,f5.1,f5.2.1,f5a,eq_true c6,CL]
       have Sy7:=zdej v0 v1 v2 v3 (Int.tmod (IntKind.i64.wrap (v0 - v3)) v0) (0 : Int) y7 hy7
       unfold qm at Sy7
       refine Sy7 _ o0 o1 (by first | assumption | omega | (simp only [aa,ak,ag,aq]; omega)) (by simp only [ha0,CL]) (by first | assumption | omega | (simp only [aa,ak,ag,aq]; omega)) (by simp only [ha1,CL]) (by first | assumption | omega | (simp only [aa,ak,ag,aq]; omega)) _ ?_ ?_
       · intro w8 e frq9 tkq9 τq9 g3q9 g4q9 g5q9 g6q9 g7q9 htq9 hcq9
         subst e
         simp only at h
         have hcq9:=dp (n:=τ.next) hcq9 (by first | omega | (simp only [aa,ak]; omega))
         try simp only [List.take_zero] at htq9
         try simp only [TT] at hcq9
         obtain ⟨y12,hy12,h⟩:=ob h
         have k13:=zcer (Int.tmod (IntKind.i64.wrap ((IntKind.i64.wrap ((Int.tmod (IntKind.i64.wrap (v0 - v3)) v0) + v0)) - (1 : Int))) v0) _ hy12
         try simp only [CL,MC,reduceToNat] at k13
         obtain ⟨y14,hy14,h⟩:=ob h
         have k15:=zdjo v1 v2 (Int.tmod (IntKind.i64.wrap ((IntKind.i64.wrap ((Int.tmod (IntKind.i64.wrap (v0 - v3)) v0) + v0)) - (1 : Int))) v0) y12 _ hy14
         try simp only [CL] at k15
         injection h with h; subst h
         have ih:=ih y14 (IntKind.i64.wrap (v3 + (1 : Int))) rfl
         unfold qn at ih
         simp only [TT,Ic.t,reduceEqDiff,reduceAdd,reduceCtorEq,hl,ha0,hi0,ha1,hi1,hw1,c2,g3q9,g4q9,g5q9,g6q9,g7q9,hcq9,k13,k15,CL]
         rw [hn]
         simp only [TT,reduceEqDiff,hi0,hi1]
         exact ih  (τ.put o1 ⟨d8,y14.cells⟩) o0 o1   (by first | assumption | (simp only [aa,ag]; assumption)) (by simp only [TT,ha0,nq hn0_1,CL]) (by first | assumption | (simp only [aa]; assumption)) (by simp only [TT,hi1,CL]) (by first | assumption | (simp only [aa]; assumption)) (by first | assumption | (simp only [aa,ag]; assumption)) hn0_1 Q (fun v e fr tk2 τ2 g0 g1 g2 ht hτ => hQ0 v e fr tk2 τ2 g0 g1 g2 ht (by first | exact hτ | simpa only [aa,oc,hl,ha0,hi0,ha1,hi1,hw1,nq hn0_1] using hτ)) (fun v e tk2 τ2  hτ => hQ1 v e tk2 τ2  (by first | exact hτ | simpa only [aa,oc,hl,ha0,hi0,ha1,hi1,hw1,nq hn0_1] using hτ))
       intro w10 e tkq11 τq11 hcq11
       subst e
       simp only at h
       have hcq11:=dp (n:=τ.next) hcq11 (by first | omega | (simp only [aa,ak]; omega))
       try simp only [TT] at hcq11
       injection h with h; subst h
       obtain rfl : _ = r:=ih
       simp only [TT,hr]
       exact hQ1 (w10,v2) rfl  _ _  (by first | exact fx (Nat.le_refl _) | (simp only [jj ha1,hcq11]))
     rw [if_neg c6] at h
     injection h with h; subst h
     obtain rfl : _ = r:=ih
     simp only [ir,dx,TT,Ic.t,ci,reduceEqDiff,ha1,he,hr,c1,c2,eq_true c3,f5.1,f5.2.1,f5a,c6,CL]
     exact hQ1 (false,v2) rfl  _ _  (by first | exact fx (Nat.le_refl _) | (simp only [TT,jj ha1]))
   rw [if_neg c3] at h
   injection h with h; subst h
   obtain rfl : _ = r:=ih
   simp only [ir,dx,TT,Ic.t,ci,reduceEqDiff,ha1,he,hr,c1,c2,c3,CL]
   exact hQ1 (false,v2) rfl  _ _  (by first | exact fx (Nat.le_refl _) | (simp only [TT,jj ha1]))
 rw [if_neg c1] at h
 injection h with h; subst h
 obtain rfl : _ = r:=ih
 simp only [ir,dx,TT,Ic.t,ci,reduceEqDiff,reduceCtorEq,ha1,he,c1,CL]
 exact hQ0 v2 rfl  _ _ _  (by first | rfl | (simp only [TT,Ic.t,ci,reduceEqDiff,reduceIte,reduceAdd,reduceLT,reduceCtorEq,reduceToNat,hl,ha0,hi0,ha1,hi1,hw1,nq hn0_1,c1,CL,LTN])) (by first | rfl | (simp only [TT,Ic.t,ci,reduceEqDiff,reduceIte,reduceAdd,reduceLT,reduceCtorEq,reduceToNat,hl,ha0,hi0,ha1,hi1,hw1,nq hn0_1,c1,CL,LTN])) (by first | rfl | (simp only [TT,Ic.t,ci,reduceEqDiff,reduceIte,reduceAdd,reduceLT,reduceCtorEq,reduceToNat,hl,ha0,hi0,ha1,hi1,hw1,nq hn0_1,c1,CL,LTN])) (by first | rfl | (simp only [TT,Ic.t,ci,reduceEqDiff,reduceIte,reduceAdd,reduceLT,reduceCtorEq,reduceToNat,hl,ha0,hi0,ha1,hi1,hw1,nq hn0_1,c1,CL,LTN])) (by first | exact fx (Nat.le_refl _) | (simp only [TT,jj ha1,CL]))
noncomputable def ud (p1 : Int) : Option Bool :=
 xw p1 (5 : Int) >>= fun y1 =>
 zb7r (IntKind.i64.wrap ((2 : Int) + y1)) (5 : Int) (6 : Int) >>= fun y3 =>
 pj (0 : Int) >>= fun y5 =>
 rh (0 : Int) >>= fun y7 =>
 ja y3 (0 : Int) y5 y7 >>= fun y9 =>
 jo (IntKind.i64.wrap ((2 : Int) + y1)) y3 y9 (0 : Int) >>= fun y11 =>
 match y11 with
 | .ex w12 =>
  if ((w12.Path.length : Nat) : Int) = (IntKind.i64.wrap ((IntKind.i64.wrap ((2 : Int) + y1)) + (1 : Int))) then
   cq y3 (IntKind.i64.wrap ((IntKind.i64.wrap ((2 : Int) + y1)) - (1 : Int))) w12 >>= fun y17 =>
   if y17 = true then
    some false
   else
   ms >>= fun y20 =>
   some y20
  else
  some false
 | .rt w14 =>
  some w14.1
set_option maxRecDepth 100000 in
set_option maxHeartbeats 4000000 in
theorem zdg4 (p1 : Int) (r : Bool) (h : ud p1 = some r) (τ : TH) (hl : τ.lock ≤ τ.next) : Ru G pv [.int .i64 p1] τ (.bool r) τ:=by
 refine gp fun K hK => ?_
 rw [bc zdi3 (Nat.le_of_ble_eq_true rfl)]
 unfold ud at h
 obtain ⟨y1,hy1,h⟩:=ob h
 have k2:=zden p1 (5 : Int) _ hy1
 try simp only [CL,MC,reduceToNat] at k2
 obtain ⟨y3,hy3,h⟩:=ob h
 have k4:=zcyj (IntKind.i64.wrap ((2 : Int) + y1)) (5 : Int) (6 : Int) _ hy3
 try simp only [CL] at k4
 obtain ⟨y5,hy5,h⟩:=ob h
 have k6:=zcj3 (0 : Int) _ hy5
 try simp only [CL,MC,reduceToNat] at k6
 obtain ⟨y7,hy7,h⟩:=ob h
 have k8:=zcer (0 : Int) _ hy7
 try simp only [CL,MC,reduceToNat] at k8
 obtain ⟨y9,hy9,h⟩:=ob h
 have k10:=zckl y3 (0 : Int) y5 y7 _ hy9
 try simp only [CL] at k10
 obtain ⟨y11,hy11,h⟩:=ob h
 simp only [dx,TT,Ic.t,ci,reduceEqDiff,reduceAdd,reduceCtorEq,hl,k2,k4,k6,k8,k10]
 have Sy11:=zdei (IntKind.i64.wrap ((2 : Int) + y1)) y3 y9 (0 : Int) y11 hy11
 unfold qn at Sy11
 refine Sy11 _ τ.next (τ.next + 1) (by first | assumption | omega | (simp only [ak,aq]; omega)) (by simp only [TT,reduceLT,CL]) (by first | assumption | omega | (simp only [ak]; omega)) (by simp only [TT,CL]) (by first | assumption | omega | (simp only [ak]; omega)) (by first | assumption | omega | (simp only [aq]; omega)) (by first | assumption | omega | (simp only [aa,ak]; omega)) _ ?_ ?_
 · intro w12 e frq13 tkq13 τq13 g3q13 g4q13 g5q13 htq13 hcq13
   subst e
   simp only at h
   have hcq13:=dp (n:=τ.next + 2) hcq13 (by first | omega | (simp only [ak]; omega))
   try simp only [List.take_zero] at htq13
   try simp only [TT,reduceAdd,CL] at hcq13
   by_cases c16 : ((w12.Path.length : Nat) : Int) = (IntKind.i64.wrap ((IntKind.i64.wrap ((2 : Int) + y1)) + (1 : Int)))
   · rw [if_pos c16] at h
     obtain ⟨y17,hy17,h⟩:=ob h
     have k18:=t9 y3 (IntKind.i64.wrap ((IntKind.i64.wrap ((2 : Int) + y1)) - (1 : Int))) w12 _ hy17
     try simp only [CL] at k18
     by_cases c19 : y17 = true
     · rw [if_pos c19] at h
       injection h with h; subst h
       simp only [TT,Ic.t,reduceEqDiff,reduceAdd,reduceLT,reduceCtorEq,hl,g3q13,g4q13,g5q13,hcq13,eq_true c16,k18,c19]
       first | exact hK | (simp only [hl,k2,k4,k6,k8,k10,g3q13,g4q13,g5q13,htq13,hcq13,eq_true c16,k18,c19,CL] at hK; exact hK)
     rw [if_neg c19] at h
     have c19:=Bool.eq_false_iff.2 c19
     obtain ⟨y20,hy20,h⟩:=ob h
     have k21:=r8  _ hy20
     try simp only [CL,MC,reduceToNat] at k21
     injection h with h; subst h
     simp only [TT,Ic.t,reduceEqDiff,reduceAdd,reduceLT,reduceCtorEq,hl,g3q13,g4q13,g5q13,hcq13,eq_true c16,k18,c19,k21]
     first | exact hK | (simp only [hl,k2,k4,k6,k8,k10,g3q13,g4q13,g5q13,htq13,hcq13,eq_true c16,k18,c19,k21,CL] at hK; exact hK)
   rw [if_neg c16] at h
   injection h with h; subst h
   simp only [TT,Ic.t,reduceEqDiff,reduceAdd,reduceLT,g3q13,g4q13,g5q13,hcq13,c16]
   exact hK
 intro w14 e tkq15 τq15 hcq15
 subst e
 simp only at h
 have hcq15:=dp (n:=τ.next) hcq15 (by first | omega | (simp only [ak]; omega))
 try simp only [TT] at hcq15
 injection h with h; subst h
 simp only [TT,hcq15]
 exact hK
end Go.Proofs.Ytjgpklmkdkkooaa

