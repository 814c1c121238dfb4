import Derived.Test.YtdcfoaafkppojaaD5
set_option linter.unusedVariables false
set_option linter.unusedSimpArgs false
set_option linter.unusedSectionVars false
open Nat (reduceEqDiff reduceAdd reduceMul reduceLT reduceLeDiff reduceSub)
open Int (reduceToNat reduceNe reduceEq reduceNeg reduceLE)
namespace Go.Proofs.Ytdcfoaafkppojaa
open Go Go.RowKit Sh Ic
noncomputable def uh (p1 : aa) : Option (ac × aa) :=
 ms p1 >>= fun y1 =>
 iv y1.2 (3 : Int) >>= fun y3 =>
 some ((⟨y1.1,y3.1⟩ : ac),y3.2)
theorem zax8 (p1 : aa) (r : ac × aa) (h : uh p1 = some r) (τ : TH) (o0 : Nat) (o1 : Nat) (o2 : Nat) (hl : τ.lock ≤ τ.next) (ha0 : τ.at o0 = some ⟨j9,[.func dt [] [.ptr o1 0]]⟩) (hi0 : o0 < τ.next) (ha1 : τ.at o1 = some ⟨cy,[.ptr o2 0]⟩) (hi1 : o1 < τ.next) (ha2 : τ.at o2 = some ⟨ah,[.str p1.s_,.bool p1.bad_]⟩) (hi2 : o2 < τ.next) (hw2 : τ.lock ≤ o2) (hn0_2 : o0 ≠ o2) (hn1_2 : o1 ≠ o2) : Ru G m7 [.ptr o0 0,.ptr o1 0] τ (.agg [.str r.1.Account,.sl (List.map TV.str r.1.Keys)]) (τ.put o2 ⟨ah,[.str r.2.s_,.bool r.2.bad_]⟩) := by
 refine jt fun K hK => ?_
 rw [bx za4d (Nat.le_of_ble_eq_true rfl)]
 unfold uh at h
 obtain ⟨y1,hy1,h⟩ := ob h
 have k2 := fun (d : Option Nat) (K : aw) (fr : TF) (tk : TK) (τ' : TH) (o'0 : Nat) => z8 p1 _ hy1 d K fr tk τ' o'0 o2
 try simp only [CL,MC,reduceToNat] at k2
 obtain ⟨y3,hy3,h⟩ := ob h
 have k4 := zab6 y1.2 (3 : Int) _ hy3
 try simp only [CL,MC,reduceToNat] at k4
 injection h with h; subst h
 simp -implicitDefEqProofs only [n6,n5,n4,nz,List.isEmpty_cons,iu,tD,pnK,re,lq,List.filter_cons,List.filter_nil,List.filterMap_cons,List.filterMap_nil,cz,f0,pt,fg,Ins.dsts,Ins.looks,I.ops,vq,vp,List.all_cons,List.all_nil,List.any_cons,List.any_nil,List.contains_cons,List.contains_nil,List.append_nil,List.nil_append,List.cons_append,Option.toList_some,Option.toList_none,Option.isSome_some,Option.isSome_none,Bool.and_true,Bool.true_and,Bool.and_false,Bool.false_and,Bool.or_false,Bool.false_or,Bool.or_true,Bool.true_or,Bool.not_false,Bool.not_true,and_true,true_and,and_false,false_and,Nat.reduceBEq,bne_iff_ne,za41,TT,Ic.t,ci,reduceEqDiff,reduceIte,reduceAdd,reduceMul,reduceLT,reduceLeDiff,reduceSub,reduceCtorEq,reduceEq,reduceNe,reduceToNat,Int.reduceLT,reduceLE,reduceNeg,hl,ha0,hi0,ha1,hi1,ha2,hi2,hw2,nq hn0_2,nq hn1_2,k2,k4,CL,LTN]
 exact hK
theorem zax9 (p1 : aa) (r : ac × aa) (h : uh p1 = some r) (d : Option Nat) (K : aw) (fr : TF) (tk : TK) (τ : TH) (o0 : Nat) (o1 : Nat) (o2 : Nat) (hl : τ.lock ≤ τ.next) (ha0 : τ.at o0 = some ⟨j9,[.func dt [] [.ptr o1 0]]⟩) (hi0 : o0 < τ.next) (ha1 : τ.at o1 = some ⟨cy,[.ptr o2 0]⟩) (hi1 : o1 < τ.next) (ha2 : τ.at o2 = some ⟨ah,[.str p1.s_,.bool p1.bad_]⟩) (hi2 : o2 < τ.next) (hw2 : τ.lock ≤ o2) (hn0_2 : o0 ≠ o2) (hn1_2 : o1 ≠ o2) : fo G false m7 [.ptr o0 0,.ptr o1 0] d K fr tk τ = K (gc fr d (.agg [.str r.1.Account,.sl (List.map TV.str r.1.Keys)])) tk (τ.put o2 ⟨ah,[.str r.2.s_,.bool r.2.bad_]⟩) :=
 nw (zax8 p1 r h τ o0 o1 o2 hl ha0 hi0 ha1 hi1 ha2 hi2 hw2 hn0_2 hn1_2) (by simp -implicitDefEqProofs only [TT,Ic.t,ci,reduceEqDiff,reduceIte,reduceAdd,reduceLT,reduceCtorEq,reduceToNat,hl,ha0,hi0,ha1,hi1,ha2,hi2,hw2,nq hn0_2,nq hn1_2,CL,LTN])
noncomputable def b7 (v2 : Int) (v0 : aa) (v1 : (List ac)) (v3 : Int) : Option (LS (aa × (List ac) × Int) ((List ac) × aa)) :=
 if v3 < v2 then
  uh v0 >>= fun y2 =>
  if (v1.length + 1) * 40 ≤ 140737488355328 then
   some (.nx (y2.2,(v1 ++ [y2.1]),(IntKind.i64.wrap (v3 + (1 : Int)))))
  else
   none
 else
 some (.dn (v1,v0))
noncomputable def eh (v2 : Int) (v0 : aa) (v1 : (List ac)) (v3 : Int) : Option ((List ac) × aa) := sd (fun st => b7 v2 st.1 st.2.1 st.2.2) (v0,v1,v3)
theorem sj (v2 : Int) (v0 : aa) (v1 : (List ac)) (v3 : Int) : eh v2 v0 v1 v3 = b7 v2 v0 v1 v3 >>= LS.go (fun st => eh v2 st.1 st.2.1 st.2.2) := gw (fun st => b7 v2 st.1 st.2.1 st.2.2) (v0,v1,v3)
def jx (v2 : Int) (v0 : aa) (v1 : (List ac)) (v3 : Int) (r : (List ac) × aa) : Prop := ∀ (τ : TH) (o0 : Nat) (o1 : Nat) (o2 : Nat) (n0 : Nat) (ty0 : TypeId) (hnn0 : n0 = v1.length) (hty0 : n0 = 0 ∨ ty0 = dq) (hl : τ.lock ≤ τ.next) (ha0 : τ.at o0 = some ⟨j9,[.func dt [] [.ptr o1 0]]⟩) (hi0 : o0 < τ.next) (ha1 : τ.at o1 = some ⟨cy,[.ptr o2 0]⟩) (hi1 : o1 < τ.next) (ha2 : τ.at o2 = some ⟨ah,[.str v0.s_,.bool v0.bad_]⟩) (hi2 : o2 < τ.next) (hw2 : τ.lock ≤ o2) (hn0_2 : o0 ≠ o2) (hn1_2 : o1 ≠ o2) (Q : TEx → aw) (hQ0 : ∀ (fr : TF) (tk2 : TK) (τ2 : TH),∀ (u0 : TypeId),(r.1.length = 0 ∨ u0 = dq) → lkp fr 7 = .sla 0 (List.map ac.tv r.1) → tk2.take 1 = [some (r.1.length,u0)] → τ2.cut τ.next = (τ.put o2 ⟨ah,[.str r.2.s_,.bool r.2.bad_]⟩) → Q (.exit 0) fr tk2 τ2) ,tW G (.loop [2,7,10,11] mf) Q [(2,.func m7 [] [.ptr o0 0,.ptr o1 0]),(7,.sla 0 (List.map ac.tv v1)),(10,.int .i64 v2),(11,.int .i64 v3)] [some (n0,ty0)] τ
theorem zae8 (v2 : Int) (v0 : aa) (v1 : (List ac)) (v3 : Int) (r : (List ac) × aa) (h : eh v2 v0 v1 v3 = some r) : jx v2 v0 v1 v3 r := by
 refine ff (f := fun st => b7 v2 st.1 st.2.1 st.2.2) (P := fun st r => ∀ (v0 : aa) (v1 : (List ac)) (v3 : Int),(v0,v1,v3) = st → jx v2 v0 v1 v3 r) ?_ h v0 v1 v3 rfl
 clear h r v3 v1 v0
 intro st o h r ih v0 v1 v3 hst τ o0 o1 o2  n0 ty0 hnn0 hty0 hl ha0 hi0 ha1 hi1 ha2 hi2 hw2 hn0_2 hn1_2 Q hQ0
 subst hst
 have h : b7 v2 v0 v1 v3 = some o := h
 unfold b7 at h
 subst hnn0
 refine pb fun LQ hn hr he => ?_
 by_cases c1 : v3 < v2
 · rw [if_pos c1] at h
   obtain ⟨y2,hy2,h⟩ := ob h
   have k3 := fun (d : Option Nat) (K : aw) (fr : TF) (tk : TK) (τ' : TH) (o'0 : Nat) (o'1 : Nat) => zax9 v0 _ hy2 d K fr tk τ' o'0 o'1 o2
   try simp only [CL,MC,reduceToNat] at k3
   obtain ⟨c4,h⟩ := ifS h
   have f5 : 1 ≤ maxLen := by unfold maxLen; omega
   have f6 : v1.length + 1 ≤ maxLen := by unfold maxLen; omega
   have f7 : ((List.map ac.tv v1).all fun e => e.cells.length == 2) = true := allc (fun _ => rfl) _
   have f8 : List.map ac.tv v1 ++ List.map ac.tv [y2.1] = List.map ac.tv (v1 ++ [y2.1]) := appn _ _
   try simp only [CL,List.map_cons,List.map_nil] at f8
   injection h with h; subst h
   have ih := ih y2.2 (v1 ++ [y2.1]) (IntKind.i64.wrap (v3 + (1 : Int))) rfl
   unfold jx at ih
   simp -implicitDefEqProofs only [mf,ny,TT,Ic.t,ci,reduceEqDiff,reduceIte,reduceAdd,reduceMul,reduceLT,reduceLeDiff,reduceSub,reduceCtorEq,reduceEq,reduceNe,reduceToNat,Int.reduceLT,reduceLE,reduceNeg,hl,ha0,hi0,ha1,hi1,ha2,hi2,hw2,nq hn0_2,nq hn1_2,hty0,c1,k3,c4,f5,f6,f7,f8,CL,LTN]
   rw [hn]
   simp -implicitDefEqProofs only [TT,Ic.t,ci,reduceEqDiff,reduceIte,reduceAdd,reduceMul,reduceLT,reduceLeDiff,reduceSub,reduceCtorEq,reduceEq,reduceNe,reduceToNat,Int.reduceLT,reduceLE,reduceNeg,hl,ha0,hi0,ha1,hi1,ha2,hi2,hw2,nq hn0_2,nq hn1_2,hty0,c1,k3,c4,f5,f6,f7,f8,CL,LTN]
   exact ih  (τ.put o2 ⟨ah,[.str y2.2.s_,.bool y2.2.bad_]⟩) o0 o1 o2  (v1.length + 1) dq (by first | rfl | simp [ay]) (by first | exact hty0 | exact Or.inr rfl | simp) (by first | assumption | (simp only [ag,ak]; assumption)) (by simp -implicitDefEqProofs only [TT,Ic.t,ci,reduceEqDiff,reduceIte,reduceAdd,reduceMul,reduceLT,reduceLeDiff,reduceSub,reduceCtorEq,reduceEq,reduceNe,reduceToNat,Int.reduceLT,reduceLE,reduceNeg,hl,ha0,hi0,ha1,hi1,ha2,hi2,hw2,nq hn0_2,nq hn1_2,hty0,c1,k3,c4,f5,f6,f7,f8,CL,LTN]) (by first | assumption | (simp only [ag,ak]; assumption)) (by simp -implicitDefEqProofs only [TT,Ic.t,ci,reduceEqDiff,reduceIte,reduceAdd,reduceMul,reduceLT,reduceLeDiff,reduceSub,reduceCtorEq,reduceEq,reduceNe,reduceToNat,Int.reduceLT,reduceLE,reduceNeg,hl,ha0,hi0,ha1,hi1,ha2,hi2,hw2,nq hn0_2,nq hn1_2,hty0,c1,k3,c4,f5,f6,f7,f8,CL,LTN]) (by first | assumption | (simp only [ag,ak]; assumption)) (by simp -implicitDefEqProofs only [TT,Ic.t,ci,reduceEqDiff,reduceIte,reduceAdd,reduceMul,reduceLT,reduceLeDiff,reduceSub,reduceCtorEq,reduceEq,reduceNe,reduceToNat,Int.reduceLT,reduceLE,reduceNeg,hl,ha0,hi0,ha1,hi1,ha2,hi2,hw2,nq hn0_2,nq hn1_2,hty0,c1,k3,c4,f5,f6,f7,f8,CL,LTN]) (by first | assumption | (simp only [ag,ak]; assumption)) (by first | assumption | (simp only [ag,ak]; assumption)) hn0_2 hn1_2 Q (fun fr tk2 τ2 u0 u0' g0 ht hτ => hQ0 fr tk2 τ2 u0 u0' g0 ht (by first | exact hτ | simpa only [ag,zamt,hl,ha0,hi0,ha1,hi1,ha2,hi2,hw2,nq hn0_2,nq hn1_2,hty0] using hτ))
 rw [if_neg c1] at h
 injection h with h; subst h
 obtain rfl : _ = r := ih
 simp -implicitDefEqProofs only [mf,ny,TT,Ic.t,ci,reduceEqDiff,reduceIte,reduceAdd,reduceMul,reduceLT,reduceLeDiff,reduceSub,reduceCtorEq,reduceEq,reduceNe,reduceToNat,Int.reduceLT,reduceLE,reduceNeg,hl,ha0,hi0,ha1,hi1,ha2,hi2,hw2,nq hn0_2,nq hn1_2,hty0,he,hr,c1,CL,LTN]
 exact hQ0  _ _ _ ty0 (by first | exact hty0 | exact Or.inr rfl | simp) (by first | rfl | (simp -implicitDefEqProofs only [TT,Ic.t,ci,reduceEqDiff,reduceIte,reduceAdd,reduceMul,reduceLT,reduceLeDiff,reduceSub,reduceCtorEq,reduceEq,reduceNe,reduceToNat,Int.reduceLT,reduceLE,reduceNeg,hl,ha0,hi0,ha1,hi1,ha2,hi2,hw2,nq hn0_2,nq hn1_2,hty0,c1,CL,LTN])) (by first | rfl | (simp -implicitDefEqProofs only [TT,Ic.t,ci,reduceEqDiff,reduceIte,reduceAdd,reduceMul,reduceLT,reduceLeDiff,reduceSub,reduceCtorEq,reduceEq,reduceNe,reduceToNat,Int.reduceLT,reduceLE,reduceNeg,hl,ha0,hi0,ha1,hi1,ha2,hi2,hw2,nq hn0_2,nq hn1_2,hty0,c1,CL,LTN])) (by first | exact kd (Nat.le_refl _) | (simp -implicitDefEqProofs only [TT,Ic.t,ci,reduceEqDiff,reduceIte,reduceAdd,reduceMul,reduceLT,reduceLeDiff,reduceSub,reduceCtorEq,reduceEq,reduceNe,reduceToNat,Int.reduceLT,reduceLE,reduceNeg,hl,ha0,hi0,ha1,hi1,ha2,hi2,hw2,nq hn0_2,nq hn1_2,hty0,me ha2,c1,CL,LTN]))
noncomputable def ib (p1 : aa) (p2 : Int) : Option ((List ac) × aa) :=
 d5 p1 p2 >>= fun y1 =>
 eh y1.1 y1.2 [] (0 : Int) >>= fun y3 =>
 some (y3.1,y3.2)
theorem zaha (p1 : aa) (p2 : Int) (r : (List ac) × aa) (h : ib p1 p2 = some r) (τ : TH) (o0 : Nat) (o1 : Nat) (o2 : Nat) (hl : τ.lock ≤ τ.next) (ha0 : τ.at o0 = some ⟨ah,[.str p1.s_,.bool p1.bad_]⟩) (hi0 : o0 < τ.next) (hw0 : τ.lock ≤ o0) (ha1 : τ.at o1 = some ⟨j9,[.func dt [] [.ptr o2 0]]⟩) (hi1 : o1 < τ.next) (ha2 : τ.at o2 = some ⟨cy,[.ptr o0 0]⟩) (hi2 : o2 < τ.next) (hn0_1 : o0 ≠ o1) (hn0_2 : o0 ≠ o2) : Ru G ig [.ptr o0 0,.int .i64 p2,.func m7 [] [.ptr o1 0,.ptr o2 0]] τ (.sl (List.map ac.tv r.1)) (τ.put o0 ⟨ah,[.str r.2.s_,.bool r.2.bad_]⟩) := by
 refine jt fun K hK => ?_
 rw [bx zaj4 (Nat.le_of_ble_eq_true rfl)]
 unfold ib at h
 obtain ⟨y1,hy1,h⟩ := ob h
 have k2 := ki p1 p2 _ hy1
 try simp only [CL,MC,reduceToNat] at k2
 obtain ⟨y3,hy3,h⟩ := ob h
 simp -implicitDefEqProofs only [ny,TT,Ic.t,ci,reduceEqDiff,reduceIte,reduceAdd,reduceLT,reduceCtorEq,reduceToNat,hl,ha0,hi0,hw0,ha1,hi1,ha2,hi2,nq hn0_1,nq hn0_2,k2,CL,LTN]
 have Sy3 := zae8 y1.1 y1.2 [] (0 : Int) y3 hy3
 unfold jx at Sy3
 refine Sy3 _ o1 o2 o0 0 0 (by first | rfl | simp [ay]) (by first | exact Or.inl rfl | exact Or.inr rfl | assumption | simp) (by first | assumption | omega | (simp only [ag,ap,ak,bb]; omega)) (by simp -implicitDefEqProofs only [TT,Ic.t,ci,reduceEqDiff,reduceIte,reduceAdd,reduceLT,reduceCtorEq,reduceToNat,hl,ha0,hi0,hw0,ha1,hi1,ha2,hi2,nq hn0_1,nq hn0_2,k2,CL,LTN]) (by first | assumption | omega | (simp only [ag,ap,ak,bb]; omega)) (by simp -implicitDefEqProofs only [TT,Ic.t,ci,reduceEqDiff,reduceIte,reduceAdd,reduceLT,reduceCtorEq,reduceToNat,hl,ha0,hi0,hw0,ha1,hi1,ha2,hi2,nq hn0_1,nq hn0_2,k2,CL,LTN]) (by first | assumption | omega | (simp only [ag,ap,ak,bb]; omega)) (by simp -implicitDefEqProofs only [TT,Ic.t,ci,reduceEqDiff,reduceIte,reduceAdd,reduceLT,reduceCtorEq,reduceToNat,hl,ha0,hi0,hw0,ha1,hi1,ha2,hi2,nq hn0_1,nq hn0_2,k2,CL,LTN]) (by first | assumption | omega | (simp only [ag,ap,ak,bb]; omega)) (by first | assumption | omega | (simp only [ag,ap,ak,bb]; omega)) (by first | assumption | omega | (simp only [ag,ap]; omega)) (by first | assumption | omega | (simp only [ag,ap]; omega)) _ ?_
 intro frq4 tkq4 τq4 u0q4 uh0q4 g7q4 htq4 hcq4
 have hcq4 := ga (n := τ.next) hcq4 (by first | omega | (simp only [ag,ap]; omega))
 try simp only [List.take_succ_cons,List.take_zero,List.take_nil,CL] at htq4
 try simp -implicitDefEqProofs only [TT,Ic.t,ci,reduceEqDiff,reduceIte,reduceAdd,reduceLT,reduceCtorEq,reduceToNat,hl,ha0,hi0,hw0,ha1,hi1,ha2,hi2,nq hn0_1,nq hn0_2,k2,CL,LTN] at hcq4
 injection h with h; subst h
 simp -implicitDefEqProofs only [ny,TT,Ic.t,ci,reduceEqDiff,reduceIte,reduceAdd,reduceLT,reduceCtorEq,reduceToNat,hl,ha0,hi0,hw0,ha1,hi1,ha2,hi2,nq hn0_1,nq hn0_2,k2,uh0q4,g7q4,htq4,hcq4,CL,LTN]
 exact hK
theorem zahb (p1 : aa) (p2 : Int) (r : (List ac) × aa) (h : ib p1 p2 = some r) (d : Option Nat) (K : aw) (fr : TF) (tk : TK) (τ : TH) (o0 : Nat) (o1 : Nat) (o2 : Nat) (hl : τ.lock ≤ τ.next) (ha0 : τ.at o0 = some ⟨ah,[.str p1.s_,.bool p1.bad_]⟩) (hi0 : o0 < τ.next) (hw0 : τ.lock ≤ o0) (ha1 : τ.at o1 = some ⟨j9,[.func dt [] [.ptr o2 0]]⟩) (hi1 : o1 < τ.next) (ha2 : τ.at o2 = some ⟨cy,[.ptr o0 0]⟩) (hi2 : o2 < τ.next) (hn0_1 : o0 ≠ o1) (hn0_2 : o0 ≠ o2) : fo G false ig [.ptr o0 0,.int .i64 p2,.func m7 [] [.ptr o1 0,.ptr o2 0]] d K fr tk τ = K (gc fr d (.sl (List.map ac.tv r.1))) tk (τ.put o0 ⟨ah,[.str r.2.s_,.bool r.2.bad_]⟩) :=
 nw (zaha p1 p2 r h τ o0 o1 o2 hl ha0 hi0 hw0 ha1 hi1 ha2 hi2 hn0_1 hn0_2) (by simp -implicitDefEqProofs only [TT,Ic.t,ci,reduceEqDiff,reduceIte,reduceAdd,reduceLT,reduceCtorEq,reduceToNat,hl,ha0,hi0,hw0,ha1,hi1,ha2,hi2,nq hn0_1,nq hn0_2,CL,LTN])
noncomputable def ug (p1 : aa) : Option (af × aa) :=
 de p1 >>= fun y1 =>
 de y1.2 >>= fun y3 =>
 de y3.2 >>= fun y5 =>
 ms y5.2 >>= fun y7 =>
 de y7.2 >>= fun y9 =>
 some ((⟨y1.1,y3.1,y5.1,y7.1,y9.1⟩ : af),y9.2)
theorem zax6 (p1 : aa) (r : af × aa) (h : ug p1 = some r) (τ : TH) (o0 : Nat) (o1 : Nat) (o2 : Nat) (hl : τ.lock ≤ τ.next) (ha0 : τ.at o0 = some ⟨cy,[.ptr o1 0]⟩) (hi0 : o0 < τ.next) (ha1 : τ.at o1 = some ⟨ah,[.str p1.s_,.bool p1.bad_]⟩) (hi1 : o1 < τ.next) (hw1 : τ.lock ≤ o1) (ha2 : τ.at o2 = some ⟨j9,[.func dt [] [.ptr o0 0]]⟩) (hi2 : o2 < τ.next) (hn0_1 : o0 ≠ o1) (hn1_2 : o1 ≠ o2) : Ru G m6 [.ptr o0 0,.ptr o2 0] τ (.agg [.int .i64 r.1.From,.int .i64 r.1.To,.int .i64 r.1.Ledger,.str r.1.Asset,.int .i64 r.1.Amount]) (τ.put o1 ⟨ah,[.str r.2.s_,.bool r.2.bad_]⟩) := by
 refine jt fun K hK => ?_
 rw [bx za4c (Nat.le_of_ble_eq_true rfl)]
 unfold ug at h
 obtain ⟨y1,hy1,h⟩ := ob h
 have k2 := gh p1 _ hy1
 try simp only [CL,MC,reduceToNat] at k2
 obtain ⟨y3,hy3,h⟩ := ob h
 have k4 := gh y1.2 _ hy3
 try simp only [CL,MC,reduceToNat] at k4
 obtain ⟨y5,hy5,h⟩ := ob h
 have k6 := gh y3.2 _ hy5
 try simp only [CL,MC,reduceToNat] at k6
 obtain ⟨y7,hy7,h⟩ := ob h
 have k8 := fun (d : Option Nat) (K : aw) (fr : TF) (tk : TK) (τ' : TH) (o'0 : Nat) => z8 y5.2 _ hy7 d K fr tk τ' o'0 o1
 try simp only [CL,MC,reduceToNat] at k8
 obtain ⟨y9,hy9,h⟩ := ob h
 have k10 := gh y7.2 _ hy9
 try simp only [CL,MC,reduceToNat] at k10
 injection h with h; subst h
 simp -implicitDefEqProofs only [n6,n5,n4,nz,List.isEmpty_cons,iu,tD,pnK,re,lq,List.filter_cons,List.filter_nil,List.filterMap_cons,List.filterMap_nil,cz,f0,pt,fg,Ins.dsts,Ins.looks,I.ops,vq,vp,List.all_cons,List.all_nil,List.any_cons,List.any_nil,List.contains_cons,List.contains_nil,List.append_nil,List.nil_append,List.cons_append,Option.toList_some,Option.toList_none,Option.isSome_some,Option.isSome_none,Bool.and_true,Bool.true_and,Bool.and_false,Bool.false_and,Bool.or_false,Bool.false_or,Bool.or_true,Bool.true_or,Bool.not_false,Bool.not_true,and_true,true_and,and_false,false_and,Nat.reduceBEq,bne_iff_ne,za40,TT,Ic.t,ci,reduceEqDiff,reduceIte,reduceAdd,reduceMul,reduceLT,reduceLeDiff,reduceSub,reduceCtorEq,reduceEq,reduceNe,reduceToNat,Int.reduceLT,reduceLE,reduceNeg,hl,ha0,hi0,ha1,hi1,hw1,ha2,hi2,nq hn0_1,nq hn1_2,k2,k4,k6,k8,k10,CL,LTN]
 exact hK
theorem zax7 (p1 : aa) (r : af × aa) (h : ug p1 = some r) (d : Option Nat) (K : aw) (fr : TF) (tk : TK) (τ : TH) (o0 : Nat) (o1 : Nat) (o2 : Nat) (hl : τ.lock ≤ τ.next) (ha0 : τ.at o0 = some ⟨cy,[.ptr o1 0]⟩) (hi0 : o0 < τ.next) (ha1 : τ.at o1 = some ⟨ah,[.str p1.s_,.bool p1.bad_]⟩) (hi1 : o1 < τ.next) (hw1 : τ.lock ≤ o1) (ha2 : τ.at o2 = some ⟨j9,[.func dt [] [.ptr o0 0]]⟩) (hi2 : o2 < τ.next) (hn0_1 : o0 ≠ o1) (hn1_2 : o1 ≠ o2) : fo G false m6 [.ptr o0 0,.ptr o2 0] d K fr tk τ = K (gc fr d (.agg [.int .i64 r.1.From,.int .i64 r.1.To,.int .i64 r.1.Ledger,.str r.1.Asset,.int .i64 r.1.Amount])) tk (τ.put o1 ⟨ah,[.str r.2.s_,.bool r.2.bad_]⟩) :=
 nw (zax6 p1 r h τ o0 o1 o2 hl ha0 hi0 ha1 hi1 hw1 ha2 hi2 hn0_1 hn1_2) (by simp -implicitDefEqProofs only [TT,Ic.t,ci,reduceEqDiff,reduceIte,reduceAdd,reduceLT,reduceCtorEq,reduceToNat,hl,ha0,hi0,ha1,hi1,hw1,ha2,hi2,nq hn0_1,nq hn1_2,CL,LTN])
noncomputable def ch (v2 : Int) (v0 : aa) (v1 : (List af)) (v3 : Int) : Option (LS (aa × (List af) × Int) ((List af) × aa)) :=
 if v3 < v2 then
  ug v0 >>= fun y2 =>
  if (v1.length + 1) * 48 ≤ 140737488355328 then
   some (.nx (y2.2,(v1 ++ [y2.1]),(IntKind.i64.wrap (v3 + (1 : Int)))))
  else
   none
 else
 some (.dn (v1,v0))
noncomputable def fx (v2 : Int) (v0 : aa) (v1 : (List af)) (v3 : Int) : Option ((List af) × aa) := sd (fun st => ch v2 st.1 st.2.1 st.2.2) (v0,v1,v3)
theorem uu (v2 : Int) (v0 : aa) (v1 : (List af)) (v3 : Int) : fx v2 v0 v1 v3 = ch v2 v0 v1 v3 >>= LS.go (fun st => fx v2 st.1 st.2.1 st.2.2) := gw (fun st => ch v2 st.1 st.2.1 st.2.2) (v0,v1,v3)
def lf (v2 : Int) (v0 : aa) (v1 : (List af)) (v3 : Int) (r : (List af) × aa) : Prop := ∀ (τ : TH) (o0 : Nat) (o1 : Nat) (o2 : Nat) (n0 : Nat) (ty0 : TypeId) (hnn0 : n0 = v1.length) (hty0 : n0 = 0 ∨ ty0 = mp) (hl : τ.lock ≤ τ.next) (ha0 : τ.at o0 = some ⟨cy,[.ptr o1 0]⟩) (hi0 : o0 < τ.next) (ha1 : τ.at o1 = some ⟨ah,[.str v0.s_,.bool v0.bad_]⟩) (hi1 : o1 < τ.next) (hw1 : τ.lock ≤ o1) (ha2 : τ.at o2 = some ⟨j9,[.func dt [] [.ptr o0 0]]⟩) (hi2 : o2 < τ.next) (hn0_1 : o0 ≠ o1) (hn1_2 : o1 ≠ o2) (Q : TEx → aw) (hQ0 : ∀ (fr : TF) (tk2 : TK) (τ2 : TH),∀ (u0 : TypeId),(r.1.length = 0 ∨ u0 = mp) → lkp fr 7 = .sla 0 (List.map af.tv r.1) → tk2.take 1 = [some (r.1.length,u0)] → τ2.cut τ.next = (τ.put o1 ⟨ah,[.str r.2.s_,.bool r.2.bad_]⟩) → Q (.exit 0) fr tk2 τ2) ,tW G (.loop [2,7,10,11] nv) Q [(2,.func m6 [] [.ptr o0 0,.ptr o2 0]),(7,.sla 0 (List.map af.tv v1)),(10,.int .i64 v2),(11,.int .i64 v3)] [some (n0,ty0)] τ
theorem zago (v2 : Int) (v0 : aa) (v1 : (List af)) (v3 : Int) (r : (List af) × aa) (h : fx v2 v0 v1 v3 = some r) : lf v2 v0 v1 v3 r := by
 refine ff (f := fun st => ch v2 st.1 st.2.1 st.2.2) (P := fun st r => ∀ (v0 : aa) (v1 : (List af)) (v3 : Int),(v0,v1,v3) = st → lf v2 v0 v1 v3 r) ?_ h v0 v1 v3 rfl
 clear h r v3 v1 v0
 intro st o h r ih v0 v1 v3 hst τ o0 o1 o2  n0 ty0 hnn0 hty0 hl ha0 hi0 ha1 hi1 hw1 ha2 hi2 hn0_1 hn1_2 Q hQ0
 subst hst
 have h : ch v2 v0 v1 v3 = some o := h
 unfold ch at h
 subst hnn0
 refine pb fun LQ hn hr he => ?_
 by_cases c1 : v3 < v2
 · rw [if_pos c1] at h
   obtain ⟨y2,hy2,h⟩ := ob h
   have k3 := fun (d : Option Nat) (K : aw) (fr : TF) (tk : TK) (τ' : TH) (o'0 : Nat) (o'2 : Nat) => zax7 v0 _ hy2 d K fr tk τ' o'0 o1 o'2
   try simp only [CL,MC,reduceToNat] at k3
   obtain ⟨c4,h⟩ := ifS h
   have f5 : 1 ≤ maxLen := by unfold maxLen; omega
   have f6 : v1.length + 1 ≤ maxLen := by unfold maxLen; omega
   have f7 : ((List.map af.tv v1).all fun e => e.cells.length == 5) = true := allc (fun _ => rfl) _
   have f8 : List.map af.tv v1 ++ List.map af.tv [y2.1] = List.map af.tv (v1 ++ [y2.1]) := appn _ _
   try simp only [CL,List.map_cons,List.map_nil] at f8
   injection h with h; subst h
   have ih := ih y2.2 (v1 ++ [y2.1]) (IntKind.i64.wrap (v3 + (1 : Int))) rfl
   unfold lf at ih
   simp -implicitDefEqProofs only [nv,py,TT,Ic.t,ci,reduceEqDiff,reduceIte,reduceAdd,reduceMul,reduceLT,reduceLeDiff,reduceSub,reduceCtorEq,reduceEq,reduceNe,reduceToNat,Int.reduceLT,reduceLE,reduceNeg,hl,ha0,hi0,ha1,hi1,hw1,ha2,hi2,nq hn0_1,nq hn1_2,hty0,c1,k3,c4,f5,f6,f7,f8,CL,LTN]
   rw [hn]
   simp -implicitDefEqProofs only [TT,Ic.t,ci,reduceEqDiff,reduceIte,reduceAdd,reduceMul,reduceLT,reduceLeDiff,reduceSub,reduceCtorEq,reduceEq,reduceNe,reduceToNat,Int.reduceLT,reduceLE,reduceNeg,hl,ha0,hi0,ha1,hi1,hw1,ha2,hi2,nq hn0_1,nq hn1_2,hty0,c1,k3,c4,f5,f6,f7,f8,CL,LTN]
   exact ih  (τ.put o1 ⟨ah,[.str y2.2.s_,.bool y2.2.bad_]⟩) o0 o1 o2  (v1.length + 1) mp (by first | rfl | simp [ay]) (by first | exact hty0 | exact Or.inr rfl | simp) (by first | assumption | (simp only [ag,ak]; assumption)) (by simp -implicitDefEqProofs only [TT,Ic.t,ci,reduceEqDiff,reduceIte,reduceAdd,reduceMul,reduceLT,reduceLeDiff,reduceSub,reduceCtorEq,reduceEq,reduceNe,reduceToNat,Int.reduceLT,reduceLE,reduceNeg,hl,ha0,hi0,ha1,hi1,hw1,ha2,hi2,nq hn0_1,nq hn1_2,hty0,c1,k3,c4,f5,f6,f7,f8,CL,LTN]) (by first | assumption | (simp only [ag,ak]; assumption)) (by simp -implicitDefEqProofs only [TT,Ic.t,ci,reduceEqDiff,reduceIte,reduceAdd,reduceMul,reduceLT,reduceLeDiff,reduceSub,reduceCtorEq,reduceEq,reduceNe,reduceToNat,Int.reduceLT,reduceLE,reduceNeg,hl,ha0,hi0,ha1,hi1,hw1,ha2,hi2,nq hn0_1,nq hn1_2,hty0,c1,k3,c4,f5,f6,f7,f8,CL,LTN]) (by first | assumption | (simp only [ag,ak]; assumption)) (by first | assumption | (simp only [ag,ak]; assumption)) (by simp -implicitDefEqProofs only [TT,Ic.t,ci,reduceEqDiff,reduceIte,reduceAdd,reduceMul,reduceLT,reduceLeDiff,reduceSub,reduceCtorEq,reduceEq,reduceNe,reduceToNat,Int.reduceLT,reduceLE,reduceNeg,hl,ha0,hi0,ha1,hi1,hw1,ha2,hi2,nq hn0_1,nq hn1_2,hty0,c1,k3,c4,f5,f6,f7,f8,CL,LTN]) (by first | assumption | (simp only [ag,ak]; assumption)) hn0_1 hn1_2 Q (fun fr tk2 τ2 u0 u0' g0 ht hτ => hQ0 fr tk2 τ2 u0 u0' g0 ht (by first | exact hτ | simpa only [ag,zamt,hl,ha0,hi0,ha1,hi1,hw1,ha2,hi2,nq hn0_1,nq hn1_2,hty0] using hτ))
 rw [if_neg c1] at h
 injection h with h; subst h
 obtain rfl : _ = r := ih
 simp -implicitDefEqProofs only [nv,py,TT,Ic.t,ci,reduceEqDiff,reduceIte,reduceAdd,reduceMul,reduceLT,reduceLeDiff,reduceSub,reduceCtorEq,reduceEq,reduceNe,reduceToNat,Int.reduceLT,reduceLE,reduceNeg,hl,ha0,hi0,ha1,hi1,hw1,ha2,hi2,nq hn0_1,nq hn1_2,hty0,he,hr,c1,CL,LTN]
 exact hQ0  _ _ _ ty0 (by first | exact hty0 | exact Or.inr rfl | simp) (by first | rfl | (simp -implicitDefEqProofs only [TT,Ic.t,ci,reduceEqDiff,reduceIte,reduceAdd,reduceMul,reduceLT,reduceLeDiff,reduceSub,reduceCtorEq,reduceEq,reduceNe,reduceToNat,Int.reduceLT,reduceLE,reduceNeg,hl,ha0,hi0,ha1,hi1,hw1,ha2,hi2,nq hn0_1,nq hn1_2,hty0,c1,CL,LTN])) (by first | rfl | (simp -implicitDefEqProofs only [TT,Ic.t,ci,reduceEqDiff,reduceIte,reduceAdd,reduceMul,reduceLT,reduceLeDiff,reduceSub,reduceCtorEq,reduceEq,reduceNe,reduceToNat,Int.reduceLT,reduceLE,reduceNeg,hl,ha0,hi0,ha1,hi1,hw1,ha2,hi2,nq hn0_1,nq hn1_2,hty0,c1,CL,LTN])) (by first | exact kd (Nat.le_refl _) | (simp -implicitDefEqProofs only [TT,Ic.t,ci,reduceEqDiff,reduceIte,reduceAdd,reduceMul,reduceLT,reduceLeDiff,reduceSub,reduceCtorEq,reduceEq,reduceNe,reduceToNat,Int.reduceLT,reduceLE,reduceNeg,hl,ha0,hi0,ha1,hi1,hw1,ha2,hi2,nq hn0_1,nq hn1_2,hty0,me ha1,c1,CL,LTN]))
noncomputable def kb (p1 : aa) (p2 : Int) : Option ((List af) × aa) :=
 d5 p1 p2 >>= fun y1 =>
 fx y1.1 y1.2 [] (0 : Int) >>= fun y3 =>
 some (y3.1,y3.2)
theorem zaj1 (p1 : aa) (p2 : Int) (r : (List af) × aa) (h : kb p1 p2 = some r) (τ : TH) (o0 : Nat) (o1 : Nat) (o2 : Nat) (hl : τ.lock ≤ τ.next) (ha0 : τ.at o0 = some ⟨ah,[.str p1.s_,.bool p1.bad_]⟩) (hi0 : o0 < τ.next) (hw0 : τ.lock ≤ o0) (ha1 : τ.at o1 = some ⟨cy,[.ptr o0 0]⟩) (hi1 : o1 < τ.next) (ha2 : τ.at o2 = some ⟨j9,[.func dt [] [.ptr o1 0]]⟩) (hi2 : o2 < τ.next) (hn0_1 : o0 ≠ o1) (hn0_2 : o0 ≠ o2) : Ru G kc [.ptr o0 0,.int .i64 p2,.func m6 [] [.ptr o1 0,.ptr o2 0]] τ (.sl (List.map af.tv r.1)) (τ.put o0 ⟨ah,[.str r.2.s_,.bool r.2.bad_]⟩) := by
 refine jt fun K hK => ?_
 rw [bx zamu (Nat.le_of_ble_eq_true rfl)]
 unfold kb at h
 obtain ⟨y1,hy1,h⟩ := ob h
 have k2 := ki p1 p2 _ hy1
 try simp only [CL,MC,reduceToNat] at k2
 obtain ⟨y3,hy3,h⟩ := ob h
 simp -implicitDefEqProofs only [py,TT,Ic.t,ci,reduceEqDiff,reduceIte,reduceAdd,reduceLT,reduceCtorEq,reduceToNat,hl,ha0,hi0,hw0,ha1,hi1,ha2,hi2,nq hn0_1,nq hn0_2,k2,CL,LTN]
 have Sy3 := zago y1.1 y1.2 [] (0 : Int) y3 hy3
 unfold lf at Sy3
 refine Sy3 _ o1 o0 o2 0 0 (by first | rfl | simp [ay]) (by first | exact Or.inl rfl | exact Or.inr rfl | assumption | simp) (by first | assumption | omega | (simp only [ag,ap,ak,bb]; omega)) (by simp -implicitDefEqProofs only [TT,Ic.t,ci,reduceEqDiff,reduceIte,reduceAdd,reduceLT,reduceCtorEq,reduceToNat,hl,ha0,hi0,hw0,ha1,hi1,ha2,hi2,nq hn0_1,nq hn0_2,k2,CL,LTN]) (by first | assumption | omega | (simp only [ag,ap,ak,bb]; omega)) (by simp -implicitDefEqProofs only [TT,Ic.t,ci,reduceEqDiff,reduceIte,reduceAdd,reduceLT,reduceCtorEq,reduceToNat,hl,ha0,hi0,hw0,ha1,hi1,ha2,hi2,nq hn0_1,nq hn0_2,k2,CL,LTN]) (by first | assumption | omega | (simp only [ag,ap,ak,bb]; omega)) (by first | assumption | omega | (simp only [ag,ap,ak,bb]; omega)) (by simp -implicitDefEqProofs only [TT,Ic.t,ci,reduceEqDiff,reduceIte,reduceAdd,reduceLT,reduceCtorEq,reduceToNat,hl,ha0,hi0,hw0,ha1,hi1,ha2,hi2,nq hn0_1,nq hn0_2,k2,CL,LTN]) (by first | assumption | omega | (simp only [ag,ap,ak,bb]; omega)) (by first | assumption | omega | (simp only [ag,ap]; omega)) (by first | assumption | omega | (simp only [ag,ap]; omega)) _ ?_
 intro frq4 tkq4 τq4 u0q4 uh0q4 g7q4 htq4 hcq4
 have hcq4 := ga (n := τ.next) hcq4 (by first | omega | (simp only [ag,ap]; omega))
 try simp only [List.take_succ_cons,List.take_zero,List.take_nil,CL] at htq4
 try simp -implicitDefEqProofs only [TT,Ic.t,ci,reduceEqDiff,reduceIte,reduceAdd,reduceLT,reduceCtorEq,reduceToNat,hl,ha0,hi0,hw0,ha1,hi1,ha2,hi2,nq hn0_1,nq hn0_2,k2,CL,LTN] at hcq4
 injection h with h; subst h
 simp -implicitDefEqProofs only [py,TT,Ic.t,ci,reduceEqDiff,reduceIte,reduceAdd,reduceLT,reduceCtorEq,reduceToNat,hl,ha0,hi0,hw0,ha1,hi1,ha2,hi2,nq hn0_1,nq hn0_2,k2,uh0q4,g7q4,htq4,hcq4,CL,LTN]
 exact hK
theorem zaj2 (p1 : aa) (p2 : Int) (r : (List af) × aa) (h : kb p1 p2 = some r) (d : Option Nat) (K : aw) (fr : TF) (tk : TK) (τ : TH) (o0 : Nat) (o1 : Nat) (o2 : Nat) (hl : τ.lock ≤ τ.next) (ha0 : τ.at o0 = some ⟨ah,[.str p1.s_,.bool p1.bad_]⟩) (hi0 : o0 < τ.next) (hw0 : τ.lock ≤ o0) (ha1 : τ.at o1 = some ⟨cy,[.ptr o0 0]⟩) (hi1 : o1 < τ.next) (ha2 : τ.at o2 = some ⟨j9,[.func dt [] [.ptr o1 0]]⟩) (hi2 : o2 < τ.next) (hn0_1 : o0 ≠ o1) (hn0_2 : o0 ≠ o2) : fo G false kc [.ptr o0 0,.int .i64 p2,.func m6 [] [.ptr o1 0,.ptr o2 0]] d K fr tk τ = K (gc fr d (.sl (List.map af.tv r.1))) tk (τ.put o0 ⟨ah,[.str r.2.s_,.bool r.2.bad_]⟩) :=
 nw (zaj1 p1 p2 r h τ o0 o1 o2 hl ha0 hi0 hw0 ha1 hi1 ha2 hi2 hn0_1 hn0_2) (by simp -implicitDefEqProofs only [TT,Ic.t,ci,reduceEqDiff,reduceIte,reduceAdd,reduceLT,reduceCtorEq,reduceToNat,hl,ha0,hi0,hw0,ha1,hi1,ha2,hi2,nq hn0_1,nq hn0_2,CL,LTN])
noncomputable def dy (v2 : Int) (v0 : aa) (v1 : (List Int)) (v3 : Int) : Option (LS (aa × (List Int) × Int) ((List Int) × aa)) :=
 if v3 < v2 then
  de v0 >>= fun y2 =>
  if (v1.length + 1) * 8 ≤ 140737488355328 then
   some (.nx (y2.2,(v1 ++ [y2.1]),(IntKind.i64.wrap (v3 + (1 : Int)))))
  else
   none
 else
 some (.dn (v1,v0))
noncomputable def iw (v2 : Int) (v0 : aa) (v1 : (List Int)) (v3 : Int) : Option ((List Int) × aa) := sd (fun st => dy v2 st.1 st.2.1 st.2.2) (v0,v1,v3)
theorem zaax (v2 : Int) (v0 : aa) (v1 : (List Int)) (v3 : Int) : iw v2 v0 v1 v3 = dy v2 v0 v1 v3 >>= LS.go (fun st => iw v2 st.1 st.2.1 st.2.2) := gw (fun st => dy v2 st.1 st.2.1 st.2.2) (v0,v1,v3)
def ot (v2 : Int) (v0 : aa) (v1 : (List Int)) (v3 : Int) (r : (List Int) × aa) : Prop := ∀ (τ : TH) (o0 : Nat) (n0 : Nat) (ty0 : TypeId) (hnn0 : n0 = v1.length) (hty0 : n0 = 0 ∨ ty0 = uq) (hl : τ.lock ≤ τ.next) (ha0 : τ.at o0 = some ⟨ah,[.str v0.s_,.bool v0.bad_]⟩) (hi0 : o0 < τ.next) (hw0 : τ.lock ≤ o0) (Q : TEx → aw) (hQ0 : ∀ (fr : TF) (tk2 : TK) (τ2 : TH),∀ (u0 : TypeId),(r.1.length = 0 ∨ u0 = uq) → lkp fr 7 = .sla 0 (List.map (TV.int .i64) r.1) → tk2.take 1 = [some (r.1.length,u0)] → τ2.cut τ.next = (τ.put o0 ⟨ah,[.str r.2.s_,.bool r.2.bad_]⟩) → Q (.exit 0) fr tk2 τ2) ,tW G (.loop [2,7,10,11] ta) Q [(2,.func bp [.ptr o0 0] []),(7,.sla 0 (List.map (TV.int .i64) v1)),(10,.int .i64 v2),(11,.int .i64 v3)] [some (n0,ty0)] τ
theorem zaku (v2 : Int) (v0 : aa) (v1 : (List Int)) (v3 : Int) (r : (List Int) × aa) (h : iw v2 v0 v1 v3 = some r) : ot v2 v0 v1 v3 r := by
 refine ff (f := fun st => dy v2 st.1 st.2.1 st.2.2) (P := fun st r => ∀ (v0 : aa) (v1 : (List Int)) (v3 : Int),(v0,v1,v3) = st → ot v2 v0 v1 v3 r) ?_ h v0 v1 v3 rfl
 clear h r v3 v1 v0
 intro st o h r ih v0 v1 v3 hst τ o0  n0 ty0 hnn0 hty0 hl ha0 hi0 hw0 Q hQ0
 subst hst
 have h : dy v2 v0 v1 v3 = some o := h
 unfold dy at h
 subst hnn0
 refine pb fun LQ hn hr he => ?_
 by_cases c1 : v3 < v2
 · rw [if_pos c1] at h
   obtain ⟨y2,hy2,h⟩ := ob h
   have k3 := gh v0 _ hy2
   try simp only [CL,MC,reduceToNat] at k3
   obtain ⟨c4,h⟩ := ifS h
   have f5 : 1 ≤ maxLen := by unfold maxLen; omega
   have f6 : v1.length + 1 ≤ maxLen := by unfold maxLen; omega
   have f7 : ((List.map (TV.int .i64) v1).all fun e => e.cells.length == 1) = true := allc (fun _ => rfl) _
   have f8 : List.map (TV.int .i64) v1 ++ List.map (TV.int .i64) [y2.1] = List.map (TV.int .i64) (v1 ++ [y2.1]) := appn _ _
   try simp only [CL,List.map_cons,List.map_nil] at f8
   injection h with h; subst h
   have ih := ih y2.2 (v1 ++ [y2.1]) (IntKind.i64.wrap (v3 + (1 : Int))) rfl
   unfold ot at ih
   simp -implicitDefEqProofs only [ta,wz,TT,Ic.t,ci,reduceEqDiff,reduceIte,reduceAdd,reduceMul,reduceLT,reduceLeDiff,reduceSub,reduceCtorEq,reduceEq,reduceNe,reduceToNat,Int.reduceLT,reduceLE,reduceNeg,hl,ha0,hi0,hw0,hty0,c1,k3,c4,f5,f6,f7,f8,CL,LTN]
   rw [hn]
   simp -implicitDefEqProofs only [TT,Ic.t,ci,reduceEqDiff,reduceIte,reduceAdd,reduceMul,reduceLT,reduceLeDiff,reduceSub,reduceCtorEq,reduceEq,reduceNe,reduceToNat,Int.reduceLT,reduceLE,reduceNeg,hl,ha0,hi0,hw0,hty0,c1,k3,c4,f5,f6,f7,f8,CL,LTN]
   exact ih  (τ.put o0 ⟨ah,[.str y2.2.s_,.bool y2.2.bad_]⟩) o0  (v1.length + 1) uq (by first | rfl | simp [ay]) (by first | exact hty0 | exact Or.inr rfl | simp) (by first | assumption | (simp only [ag,ak]; assumption)) (by simp -implicitDefEqProofs only [TT,Ic.t,ci,reduceEqDiff,reduceIte,reduceAdd,reduceMul,reduceLT,reduceLeDiff,reduceSub,reduceCtorEq,reduceEq,reduceNe,reduceToNat,Int.reduceLT,reduceLE,reduceNeg,hl,ha0,hi0,hw0,hty0,c1,k3,c4,f5,f6,f7,f8,CL,LTN]) (by first | assumption | (simp only [ag,ak]; assumption)) (by first | assumption | (simp only [ag,ak]; assumption)) Q (fun fr tk2 τ2 u0 u0' g0 ht hτ => hQ0 fr tk2 τ2 u0 u0' g0 ht (by first | exact hτ | simpa only [ag,zamt,hl,ha0,hi0,hw0,hty0] using hτ))
 rw [if_neg c1] at h
 injection h with h; subst h
 obtain rfl : _ = r := ih
 simp -implicitDefEqProofs only [ta,wz,TT,Ic.t,ci,reduceEqDiff,reduceIte,reduceAdd,reduceMul,reduceLT,reduceLeDiff,reduceSub,reduceCtorEq,reduceEq,reduceNe,reduceToNat,Int.reduceLT,reduceLE,reduceNeg,hl,ha0,hi0,hw0,hty0,he,hr,c1,CL,LTN]
 exact hQ0  _ _ _ ty0 (by first | exact hty0 | exact Or.inr rfl | simp) (by first | rfl | (simp -implicitDefEqProofs only [TT,Ic.t,ci,reduceEqDiff,reduceIte,reduceAdd,reduceMul,reduceLT,reduceLeDiff,reduceSub,reduceCtorEq,reduceEq,reduceNe,reduceToNat,Int.reduceLT,reduceLE,reduceNeg,hl,ha0,hi0,hw0,hty0,c1,CL,LTN])) (by first | rfl | (simp -implicitDefEqProofs only [TT,Ic.t,ci,reduceEqDiff,reduceIte,reduceAdd,reduceMul,reduceLT,reduceLeDiff,reduceSub,reduceCtorEq,reduceEq,reduceNe,reduceToNat,Int.reduceLT,reduceLE,reduceNeg,hl,ha0,hi0,hw0,hty0,c1,CL,LTN])) (by first | exact kd (Nat.le_refl _) | (simp -implicitDefEqProofs only [TT,Ic.t,ci,reduceEqDiff,reduceIte,reduceAdd,reduceMul,reduceLT,reduceLeDiff,reduceSub,reduceCtorEq,reduceEq,reduceNe,reduceToNat,Int.reduceLT,reduceLE,reduceNeg,hl,ha0,hi0,hw0,hty0,me ha0,c1,CL,LTN]))
noncomputable def om (p1 : aa) (p2 : Int) : Option ((List Int) × aa) :=
 d5 p1 p2 >>= fun y1 =>
 iw y1.1 y1.2 [] (0 : Int) >>= fun y3 =>
 some (y3.1,y3.2)
theorem zaqt (p1 : aa) (p2 : Int) (r : (List Int) × aa) (h : om p1 p2 = some r) (τ : TH) (o0 : Nat) (hl : τ.lock ≤ τ.next) (ha0 : τ.at o0 = some ⟨ah,[.str p1.s_,.bool p1.bad_]⟩) (hi0 : o0 < τ.next) (hw0 : τ.lock ≤ o0) : Ru G oo [.ptr o0 0,.int .i64 p2,.func bp [.ptr o0 0] []] τ (.sl (List.map (TV.int .i64) r.1)) (τ.put o0 ⟨ah,[.str r.2.s_,.bool r.2.bad_]⟩) := by
 refine jt fun K hK => ?_
 rw [bx zawu (Nat.le_of_ble_eq_true rfl)]
 unfold om at h
 obtain ⟨y1,hy1,h⟩ := ob h
 have k2 := ki p1 p2 _ hy1
 try simp only [CL,MC,reduceToNat] at k2
 obtain ⟨y3,hy3,h⟩ := ob h
 simp -implicitDefEqProofs only [wz,TT,Ic.t,ci,reduceEqDiff,reduceIte,reduceAdd,reduceLT,reduceCtorEq,reduceToNat,hl,ha0,hi0,hw0,k2,CL,LTN]
 have Sy3 := zaku y1.1 y1.2 [] (0 : Int) y3 hy3
 unfold ot at Sy3
 refine Sy3 _ o0 0 0 (by first | rfl | simp [ay]) (by first | exact Or.inl rfl | exact Or.inr rfl | assumption | simp) (by first | assumption | omega | (simp only [ag,ap,ak,bb]; omega)) (by simp -implicitDefEqProofs only [TT,Ic.t,ci,reduceEqDiff,reduceIte,reduceAdd,reduceLT,reduceCtorEq,reduceToNat,hl,ha0,hi0,hw0,k2,CL,LTN]) (by first | assumption | omega | (simp only [ag,ap,ak,bb]; omega)) (by first | assumption | omega | (simp only [ag,ap,ak,bb]; omega)) _ ?_
 intro frq4 tkq4 τq4 u0q4 uh0q4 g7q4 htq4 hcq4
 have hcq4 := ga (n := τ.next) hcq4 (by first | omega | (simp only [ag,ap]; omega))
 try simp only [List.take_succ_cons,List.take_zero,List.take_nil,CL] at htq4
 try simp -implicitDefEqProofs only [TT,Ic.t,ci,reduceEqDiff,reduceIte,reduceAdd,reduceLT,reduceCtorEq,reduceToNat,hl,ha0,hi0,hw0,k2,CL,LTN] at hcq4
 injection h with h; subst h
 simp -implicitDefEqProofs only [wz,TT,Ic.t,ci,reduceEqDiff,reduceIte,reduceAdd,reduceLT,reduceCtorEq,reduceToNat,hl,ha0,hi0,hw0,k2,uh0q4,g7q4,htq4,hcq4,CL,LTN]
 exact hK
theorem zaqu (p1 : aa) (p2 : Int) (r : (List Int) × aa) (h : om p1 p2 = some r) (d : Option Nat) (K : aw) (fr : TF) (tk : TK) (τ : TH) (o0 : Nat) (hl : τ.lock ≤ τ.next) (ha0 : τ.at o0 = some ⟨ah,[.str p1.s_,.bool p1.bad_]⟩) (hi0 : o0 < τ.next) (hw0 : τ.lock ≤ o0) : fo G false oo [.ptr o0 0,.int .i64 p2,.func bp [.ptr o0 0] []] d K fr tk τ = K (gc fr d (.sl (List.map (TV.int .i64) r.1))) tk (τ.put o0 ⟨ah,[.str r.2.s_,.bool r.2.bad_]⟩) :=
 nw (zaqt p1 p2 r h τ o0 hl ha0 hi0 hw0) (by simp -implicitDefEqProofs only [TT,Ic.t,ci,reduceEqDiff,reduceIte,reduceAdd,reduceLT,reduceCtorEq,reduceToNat,hl,ha0,hi0,hw0,CL,LTN])
noncomputable def tc (p1 : aa) : Option Bool :=
 some p1.bad_
theorem zaed (p1 : aa) (r : Bool) (h : tc p1 = some r) (τ : TH) (o0 : Nat) (hl : τ.lock ≤ τ.next) (ha0 : τ.at o0 = some ⟨ah,[.str p1.s_,.bool p1.bad_]⟩) (hi0 : o0 < τ.next) : Ru G mg [.ptr o0 0] τ (.bool r) τ := by
 refine jt fun K hK => ?_
 rw [bx zatg (Nat.le_of_ble_eq_true rfl)]
 unfold tc at h
 injection h with h; subst h
 simp -implicitDefEqProofs only [zatz,TT,Ic.t,ci,reduceEqDiff,reduceIte,reduceAdd,reduceLT,reduceCtorEq,reduceToNat,hl,ha0,hi0,CL,LTN]
 exact hK
theorem zamy (p1 : aa) (r : Bool) (h : tc p1 = some r) (lk : Bool) (d : Option Nat) (K : aw) (fr : TF) (tk : TK) (τ : TH) (o0 : Nat) (hl : τ.lock ≤ τ.next) (ha0 : τ.at o0 = some ⟨ah,[.str p1.s_,.bool p1.bad_]⟩) (hi0 : o0 < τ.next) : fo G lk mg [.ptr o0 0] d K fr tk τ = K (gc fr d (.bool r)) tk τ :=
 bn (zaed p1 r h τ o0 hl ha0 hi0) (zaed p1 r h (τ.locked τ.next) o0 (Nat.le_refl _) (by rw [za0w]; exact ha0) hi0) (by simp -implicitDefEqProofs only [TT,Ic.t,ci,reduceEqDiff,reduceIte,reduceAdd,reduceLT,reduceCtorEq,reduceToNat,hl,ha0,hi0,CL,LTN])
noncomputable def rk (p1 : aa) : Option Int :=
 some ((p1.s_.size : Nat) : Int)
theorem zac8 (p1 : aa) (r : Int) (h : rk p1 = some r) (τ : TH) (o0 : Nat) (hl : τ.lock ≤ τ.next) (ha0 : τ.at o0 = some ⟨ah,[.str p1.s_,.bool p1.bad_]⟩) (hi0 : o0 < τ.next) : Ru G ky [.ptr o0 0] τ (.int .i64 r) τ := by
 refine jt fun K hK => ?_
 rw [bx zapw (Nat.le_of_ble_eq_true rfl)]
 unfold rk at h
 injection h with h; subst h
 simp -implicitDefEqProofs only [zaqj,TT,Ic.t,ci,reduceEqDiff,reduceIte,reduceAdd,reduceLT,reduceCtorEq,reduceToNat,hl,ha0,hi0,CL,LTN]
 exact hK
theorem zal7 (p1 : aa) (r : Int) (h : rk p1 = some r) (lk : Bool) (d : Option Nat) (K : aw) (fr : TF) (tk : TK) (τ : TH) (o0 : Nat) (hl : τ.lock ≤ τ.next) (ha0 : τ.at o0 = some ⟨ah,[.str p1.s_,.bool p1.bad_]⟩) (hi0 : o0 < τ.next) : fo G lk ky [.ptr o0 0] d K fr tk τ = K (gc fr d (.int .i64 r)) tk τ :=
 bn (zac8 p1 r h τ o0 hl ha0 hi0) (zac8 p1 r h (τ.locked τ.next) o0 (Nat.le_refl _) (by rw [za0w]; exact ha0) hi0) (by simp -implicitDefEqProofs only [TT,Ic.t,ci,reduceEqDiff,reduceIte,reduceAdd,reduceLT,reduceCtorEq,reduceToNat,hl,ha0,hi0,CL,LTN])
noncomputable def tp (p1 : ByteArray) : Option (aq × Int) :=
 zafs p1 >>= fun y1 =>
 ms y1 >>= fun y3 =>
 ib y3.2 (6 : Int) >>= fun y5 =>
 kb y5.2 (12 : Int) >>= fun y7 =>
 om y7.2 (3 : Int) >>= fun y9 =>
 iv y9.2 (3 : Int) >>= fun y11 =>
 de y11.2 >>= fun y13 =>
 de y13.2 >>= fun y15 =>
 tc y15.2 >>= fun y17 =>
 if y17 = true then
  some ((⟨(⟨#[]⟩ : ByteArray),[],[],[],[],(0 : Int),(0 : Int)⟩ : aq),(2 : Int))
 else
 rk y15.2 >>= fun y20 =>
 if (0 : Int) < y20 then
  some ((⟨(⟨#[]⟩ : ByteArray),[],[],[],[],(0 : Int),(0 : Int)⟩ : aq),(2 : Int))
 else
 ly (⟨y3.1,y5.1,y7.1,y9.1,y11.1,y13.1,y15.1⟩ : aq) >>= fun y23 =>
 if y23 = true then
  some ((⟨y3.1,y5.1,y7.1,y9.1,y11.1,y13.1,y15.1⟩ : aq),(0 : Int))
 else
 some ((⟨(⟨#[]⟩ : ByteArray),[],[],[],[],(0 : Int),(0 : Int)⟩ : aq),(2 : Int))
theorem zaqx (p1 : ByteArray) (r : aq × Int) (h : tp p1 = some r) (τ : TH) (hl : τ.lock ≤ τ.next) : Ru G uc [.str p1] τ (.tup [.agg [.str r.1.ID,.sl (List.map ac.tv r.1.Parties),.sl (List.map af.tv r.1.Arcs),.sl (List.map (TV.int .i64) r.1.Leaders),.sl (List.map TV.str r.1.Locks),.int .i64 r.1.Start,.int .i64 r.1.Delta],.int .i64 r.2]) τ := by
 refine jt fun K hK => ?_
 rw [bx zbbk (Nat.le_of_ble_eq_true rfl)]
 unfold tp at h
 obtain ⟨y1,hy1,h⟩ := ob h
 have k2 := za4p p1 _ hy1
 try simp only [CL,MC,reduceToNat] at k2
 obtain ⟨y3,hy3,h⟩ := ob h
 have k4 := fun (d : Option Nat) (K : aw) (fr : TF) (tk : TK) (τ' : TH) (o'0 : Nat) => z8 y1 _ hy3 d K fr tk τ' o'0 (τ.next + 1)
 try simp only [CL,MC,reduceToNat] at k4
 obtain ⟨y5,hy5,h⟩ := ob h
 have k6 := zahb y3.2 (6 : Int) _ hy5
 try simp only [CL,MC,reduceToNat] at k6
 obtain ⟨y7,hy7,h⟩ := ob h
 have k8 := zaj2 y5.2 (12 : Int) _ hy7
 try simp only [CL,MC,reduceToNat] at k8
 obtain ⟨y9,hy9,h⟩ := ob h
 have k10 := zaqu y7.2 (3 : Int) _ hy9
 try simp only [CL,MC,reduceToNat] at k10
 obtain ⟨y11,hy11,h⟩ := ob h
 have k12 := zab6 y9.2 (3 : Int) _ hy11
 try simp only [CL,MC,reduceToNat] at k12
 obtain ⟨y13,hy13,h⟩ := ob h
 have k14 := gh y11.2 _ hy13
 try simp only [CL,MC,reduceToNat] at k14
 obtain ⟨y15,hy15,h⟩ := ob h
 have k16 := gh y13.2 _ hy15
 try simp only [CL,MC,reduceToNat] at k16
 obtain ⟨y17,hy17,h⟩ := ob h
 have k18 := zamy y15.2 _ hy17
 try simp only [CL,MC,reduceToNat] at k18
 by_cases c19 : y17 = true
 · rw [if_pos c19] at h
   injection h with h; subst h
   simp -implicitDefEqProofs only [n6,n5,n4,nz,List.isEmpty_cons,iu,tD,pnK,re,lq,List.filter_cons,List.filter_nil,List.filterMap_cons,List.filterMap_nil,cz,f0,pt,fg,Ins.dsts,Ins.looks,I.ops,vq,vp,List.all_cons,List.all_nil,List.any_cons,List.any_nil,List.contains_cons,List.contains_nil,List.append_nil,List.nil_append,List.cons_append,Option.toList_some,Option.toList_none,Option.isSome_some,Option.isSome_none,Bool.and_true,Bool.true_and,Bool.and_false,Bool.false_and,Bool.or_false,Bool.false_or,Bool.or_true,Bool.true_or,Bool.not_false,Bool.not_true,and_true,true_and,and_false,false_and,Nat.reduceBEq,bne_iff_ne,zajh,TT,Ic.t,ci,reduceEqDiff,reduceIte,reduceAdd,reduceMul,reduceLT,reduceLeDiff,reduceSub,reduceCtorEq,reduceEq,reduceNe,reduceToNat,Int.reduceLT,reduceLE,reduceNeg,hl,k2,k4,k6,k8,k10,k12,k14,k16,k18,c19,CL,LTN]
   first | exact hK | (simp only [hl,k2,k4,k6,k8,k10,k12,k14,k16,k18,c19,CL] at hK; exact hK)
 rw [if_neg c19] at h
 have c19 := Bool.eq_false_iff.2 c19
 obtain ⟨y20,hy20,h⟩ := ob h
 have k21 := zal7 y15.2 _ hy20
 try simp only [CL,MC,reduceToNat] at k21
 by_cases c22 : (0 : Int) < y20
 · rw [if_pos c22] at h
   injection h with h; subst h
   simp -implicitDefEqProofs only [n6,n5,n4,nz,List.isEmpty_cons,iu,tD,pnK,re,lq,List.filter_cons,List.filter_nil,List.filterMap_cons,List.filterMap_nil,cz,f0,pt,fg,Ins.dsts,Ins.looks,I.ops,vq,vp,List.all_cons,List.all_nil,List.any_cons,List.any_nil,List.contains_cons,List.contains_nil,List.append_nil,List.nil_append,List.cons_append,Option.toList_some,Option.toList_none,Option.isSome_some,Option.isSome_none,Bool.and_true,Bool.true_and,Bool.and_false,Bool.false_and,Bool.or_false,Bool.false_or,Bool.or_true,Bool.true_or,Bool.not_false,Bool.not_true,and_true,true_and,and_false,false_and,Nat.reduceBEq,bne_iff_ne,zajh,TT,Ic.t,ci,reduceEqDiff,reduceIte,reduceAdd,reduceMul,reduceLT,reduceLeDiff,reduceSub,reduceCtorEq,reduceEq,reduceNe,reduceToNat,Int.reduceLT,reduceLE,reduceNeg,hl,k2,k4,k6,k8,k10,k12,k14,k16,k18,c19,k21,c22,CL,LTN]
   first | exact hK | (simp only [hl,k2,k4,k6,k8,k10,k12,k14,k16,k18,c19,k21,c22,CL] at hK; exact hK)
 rw [if_neg c22] at h
 obtain ⟨y23,hy23,h⟩ := ob h
 have k24 := zabx (⟨y3.1,y5.1,y7.1,y9.1,y11.1,y13.1,y15.1⟩ : aq) _ hy23
 try simp only [CL,MC,reduceToNat] at k24
 by_cases c25 : y23 = true
 · rw [if_pos c25] at h
   injection h with h; subst h
   simp -implicitDefEqProofs only [n6,n5,n4,nz,List.isEmpty_cons,iu,tD,pnK,re,lq,List.filter_cons,List.filter_nil,List.filterMap_cons,List.filterMap_nil,cz,f0,pt,fg,Ins.dsts,Ins.looks,I.ops,vq,vp,List.all_cons,List.all_nil,List.any_cons,List.any_nil,List.contains_cons,List.contains_nil,List.append_nil,List.nil_append,List.cons_append,Option.toList_some,Option.toList_none,Option.isSome_some,Option.isSome_none,Bool.and_true,Bool.true_and,Bool.and_false,Bool.false_and,Bool.or_false,Bool.false_or,Bool.or_true,Bool.true_or,Bool.not_false,Bool.not_true,and_true,true_and,and_false,false_and,Nat.reduceBEq,bne_iff_ne,zajh,TT,Ic.t,ci,reduceEqDiff,reduceIte,reduceAdd,reduceMul,reduceLT,reduceLeDiff,reduceSub,reduceCtorEq,reduceEq,reduceNe,reduceToNat,Int.reduceLT,reduceLE,reduceNeg,hl,k2,k4,k6,k8,k10,k12,k14,k16,k18,c19,k21,c22,k24,c25,CL,LTN]
   first | exact hK | (simp only [hl,k2,k4,k6,k8,k10,k12,k14,k16,k18,c19,k21,c22,k24,c25,CL] at hK; exact hK)
 rw [if_neg c25] at h
 have c25 := Bool.eq_false_iff.2 c25
 injection h with h; subst h
 simp -implicitDefEqProofs only [n6,n5,n4,nz,List.isEmpty_cons,iu,tD,pnK,re,lq,List.filter_cons,List.filter_nil,List.filterMap_cons,List.filterMap_nil,cz,f0,pt,fg,Ins.dsts,Ins.looks,I.ops,vq,vp,List.all_cons,List.all_nil,List.any_cons,List.any_nil,List.contains_cons,List.contains_nil,List.append_nil,List.nil_append,List.cons_append,Option.toList_some,Option.toList_none,Option.isSome_some,Option.isSome_none,Bool.and_true,Bool.true_and,Bool.and_false,Bool.false_and,Bool.or_false,Bool.false_or,Bool.or_true,Bool.true_or,Bool.not_false,Bool.not_true,and_true,true_and,and_false,false_and,Nat.reduceBEq,bne_iff_ne,zajh,TT,Ic.t,ci,reduceEqDiff,reduceIte,reduceAdd,reduceMul,reduceLT,reduceLeDiff,reduceSub,reduceCtorEq,reduceEq,reduceNe,reduceToNat,Int.reduceLT,reduceLE,reduceNeg,hl,k2,k4,k6,k8,k10,k12,k14,k16,k18,c19,k21,c22,k24,c25,CL,LTN]
 first | exact hK | (simp only [hl,k2,k4,k6,k8,k10,k12,k14,k16,k18,c19,k21,c22,k24,c25,CL] at hK; exact hK)
theorem zair (p1 : ByteArray) (r : aq × Int) (h : tp p1 = some r) (lk : Bool) (d : Option Nat) (K : aw) (fr : TF) (tk : TK) (τ : TH) (hl : τ.lock ≤ τ.next) : fo G lk uc [.str p1] d K fr tk τ = K (gc fr d (.tup [.agg [.str r.1.ID,.sl (List.map ac.tv r.1.Parties),.sl (List.map af.tv r.1.Arcs),.sl (List.map (TV.int .i64) r.1.Leaders),.sl (List.map TV.str r.1.Locks),.int .i64 r.1.Start,.int .i64 r.1.Delta],.int .i64 r.2])) tk τ :=
 bn (zaqx p1 r h τ  hl) (zaqx p1 r h (τ.locked τ.next)  (Nat.le_refl _) ) (by simp -implicitDefEqProofs only [TT,Ic.t,ci,reduceEqDiff,reduceIte,reduceAdd,reduceLT,reduceCtorEq,reduceToNat,hl,CL,LTN])
noncomputable def bh (v0 : (List ByteArray)) (v1 : (List ByteArray)) (v2 : Int) (v3 : Int) : Option (LS (Int) (LX (Unit) (Bool))) :=
 if v3 < v2 then
  ixL v0 v3 >>= fun y2 =>
  ixL v1 v3 >>= fun y4 =>
  if y2 = y4 then
   some (.nx (IntKind.i64.wrap (v3 + (1 : Int))))
  else
  some (.dn (.rt false))
 else
 some (.dn (.ex ()))
noncomputable def bf (v0 : (List ByteArray)) (v1 : (List ByteArray)) (v2 : Int) (v3 : Int) : Option (LX (Unit) (Bool)) := sd (fun st => bh v0 v1 v2 st) v3
theorem jr (v0 : (List ByteArray)) (v1 : (List ByteArray)) (v2 : Int) (v3 : Int) : bf v0 v1 v2 v3 = bh v0 v1 v2 v3 >>= LS.go (fun st => bf v0 v1 v2 st) := gw (fun st => bh v0 v1 v2 st) v3
def gp (v0 : (List ByteArray)) (v1 : (List ByteArray)) (v2 : Int) (v3 : Int) (r : LX (Unit) (Bool)) : Prop := ∀ (τ : TH) (hl : τ.lock ≤ τ.next) (Q : TEx → aw) (hQ0 : ∀ v : Unit,r = (.ex v) → ∀ (fr : TF) (tk2 : TK) (τ2 : TH),tk2.take 0 = [] → τ2.cut τ.next = τ → Q (.exit 0) fr tk2 τ2) (hQ1 : ∀ v : Bool,r = (.rt v) → ∀ (tk2 : TK) (τ2 : TH),τ2.cut τ.next = τ → Q .ret [(4,.bool v)] tk2 τ2) ,tW G (.loop [0,1,12,13] ft) Q [(0,.sl (List.map TV.str v0)),(1,.sl (List.map TV.str v1)),(12,.int .i64 v2),(13,.int .i64 v3)] [] τ
theorem z9 (v0 : (List ByteArray)) (v1 : (List ByteArray)) (v2 : Int) (v3 : Int) (r : LX (Unit) (Bool)) (h : bf v0 v1 v2 v3 = some r) : gp v0 v1 v2 v3 r := by
 refine ff (f := fun st => bh v0 v1 v2 st) (P := fun st r => ∀ (v3 : Int),v3 = st → gp v0 v1 v2 v3 r) ?_ h v3 rfl
 clear h r v3
 intro st o h r ih v3 hst τ  hl Q hQ0 hQ1
 subst hst
 have h : bh v0 v1 v2 v3 = some o := h
 unfold bh at h
 refine pb fun LQ hn hr he => ?_
 by_cases c1 : v3 < v2
 · rw [if_pos c1] at h
   obtain ⟨y2,hy2,h⟩ := ob h
   have f3 := dd hy2
   have f3a := (f3.2.2 TV.str).1
   have f3b := (f3.2.2 TV.str).2
   try simp only [CL,MC,reduceToNat] at f3 f3a f3b
   obtain ⟨y4,hy4,h⟩ := ob h
   have f5 := dd hy4
   have f5a := (f5.2.2 TV.str).1
   have f5b := (f5.2.2 TV.str).2
   try simp only [CL,MC,reduceToNat] at f5 f5a f5b
   by_cases c6 : y2 = y4
   · rw [if_pos c6] at h
     injection h with h; subst h
     have ih := ih (IntKind.i64.wrap (v3 + (1 : Int))) rfl
     unfold gp at ih
     simp -implicitDefEqProofs only [ft,dp,TT,Ic.t,ci,reduceEqDiff,reduceIte,reduceAdd,reduceLT,reduceCtorEq,reduceToNat,hl,c1,f3.1,f3.2.1,f3a,f3b,f5.1,f5.2.1,f5a,f5b,eq_true c6,CL,LTN]
     rw [hn]
     simp -implicitDefEqProofs only [TT,Ic.t,ci,reduceEqDiff,reduceIte,reduceAdd,reduceLT,reduceCtorEq,reduceToNat,hl,c1,f3.1,f3.2.1,f3a,f3b,f5.1,f5.2.1,f5a,f5b,eq_true c6,CL,LTN]
     exact ih  τ    (by first | assumption | (simp only [ag,ak]; assumption)) Q hQ0 hQ1
   rw [if_neg c6] at h
   injection h with h; subst h
   obtain rfl : _ = r := ih
   simp -implicitDefEqProofs only [ft,dp,TT,Ic.t,ci,reduceEqDiff,reduceIte,reduceAdd,reduceLT,reduceCtorEq,reduceToNat,hl,he,hr,c1,f3.1,f3.2.1,f3a,f3b,f5.1,f5.2.1,f5a,f5b,c6,CL,LTN]
   exact hQ1 false rfl  _ _  (by first | exact kd (Nat.le_refl _) | (simp -implicitDefEqProofs only [TT,Ic.t,ci,reduceEqDiff,reduceIte,reduceAdd,reduceLT,reduceCtorEq,reduceToNat,hl,c1,f3.1,f3.2.1,f3a,f3b,f5.1,f5.2.1,f5a,f5b,c6,CL,LTN]))
 rw [if_neg c1] at h
 injection h with h; subst h
 obtain rfl : _ = r := ih
 simp -implicitDefEqProofs only [ft,dp,TT,Ic.t,ci,reduceEqDiff,reduceIte,reduceAdd,reduceLT,reduceCtorEq,reduceToNat,hl,he,hr,c1,CL,LTN]
 exact hQ0 () rfl  _ _ _   (by first | rfl | (simp -implicitDefEqProofs only [TT,Ic.t,ci,reduceEqDiff,reduceIte,reduceAdd,reduceLT,reduceCtorEq,reduceToNat,hl,c1,CL,LTN])) (by first | exact kd (Nat.le_refl _) | (simp -implicitDefEqProofs only [TT,Ic.t,ci,reduceEqDiff,reduceIte,reduceAdd,reduceLT,reduceCtorEq,reduceToNat,hl,c1,CL,LTN]))
noncomputable def cj (p1 : (List ByteArray)) (p2 : (List ByteArray)) : Option Bool :=
 if ((p1.length : Nat) : Int) = ((p2.length : Nat) : Int) then
  bf p1 p2 ((p1.length : Nat) : Int) (0 : Int) >>= fun y2 =>
  match y2 with
  | .ex w3 =>
   some true
  | .rt w5 =>
   some w5
 else
 some false
theorem qm (p1 : (List ByteArray)) (p2 : (List ByteArray)) (r : Bool) (h : cj p1 p2 = some r) (τ : TH) (hl : τ.lock ≤ τ.next) : Ru G du [.sl (List.map TV.str p1),.sl (List.map TV.str p2)] τ (.bool r) τ := by
 refine jt fun K hK => ?_
 rw [bx zael (Nat.le_of_ble_eq_true rfl)]
 unfold cj at h
 by_cases c1 : ((p1.length : Nat) : Int) = ((p2.length : Nat) : Int)
 · rw [if_pos c1] at h
   obtain ⟨y2,hy2,h⟩ := ob h
   simp -implicitDefEqProofs only [dp,TT,Ic.t,ci,reduceEqDiff,reduceIte,reduceAdd,reduceLT,reduceCtorEq,reduceToNat,hl,eq_true c1,CL,LTN]
   have Sy2 := z9 p1 p2 ((p1.length : Nat) : Int) (0 : Int) y2 hy2
   unfold gp at Sy2
   refine Sy2 _ (by first | assumption | omega | (simp only [ag,ap,ak,bb]; omega)) _ ?_ ?_
   · intro w3 e frq4 tkq4 τq4 htq4 hcq4
     subst e
     simp only at h
     have hcq4 := ga (n := τ.next) hcq4 (by first | omega | (simp only [ag,ap]; omega))
     try simp only [List.take_succ_cons,List.take_zero,List.take_nil,CL] at htq4
     try simp -implicitDefEqProofs only [TT,Ic.t,ci,reduceEqDiff,reduceIte,reduceAdd,reduceLT,reduceCtorEq,reduceToNat,hl,eq_true c1,CL,LTN] at hcq4
     injection h with h; subst h
     simp -implicitDefEqProofs only [dp,TT,Ic.t,ci,reduceEqDiff,reduceIte,reduceAdd,reduceLT,reduceCtorEq,reduceToNat,hl,eq_true c1,htq4,hcq4,CL,LTN]
     exact hK
   intro w5 e tkq6 τq6 hcq6
   subst e
   simp only at h
   have hcq6 := ga (n := τ.next) hcq6 (by first | omega | (simp only [ag,ap]; omega))
   try simp -implicitDefEqProofs only [TT,Ic.t,ci,reduceEqDiff,reduceIte,reduceAdd,reduceLT,reduceCtorEq,reduceToNat,hl,eq_true c1,CL,LTN] at hcq6
   injection h with h; subst h
   simp -implicitDefEqProofs only [dp,TT,Ic.t,ci,reduceEqDiff,reduceIte,reduceAdd,reduceLT,reduceCtorEq,reduceToNat,hl,eq_true c1,hcq6,CL,LTN]
   exact hK
 rw [if_neg c1] at h
 injection h with h; subst h
 simp -implicitDefEqProofs only [dp,TT,Ic.t,ci,reduceEqDiff,reduceIte,reduceAdd,reduceLT,reduceCtorEq,reduceToNat,hl,c1,CL,LTN]
 exact hK
theorem qn (p1 : (List ByteArray)) (p2 : (List ByteArray)) (r : Bool) (h : cj p1 p2 = some r) (lk : Bool) (d : Option Nat) (K : aw) (fr : TF) (tk : TK) (τ : TH) (hl : τ.lock ≤ τ.next) : fo G lk du [.sl (List.map TV.str p1),.sl (List.map TV.str p2)] d K fr tk τ = K (gc fr d (.bool r)) tk τ :=
 bn (qm p1 p2 r h τ  hl) (qm p1 p2 r h (τ.locked τ.next)  (Nat.le_refl _) ) (by simp -implicitDefEqProofs only [TT,Ic.t,ci,reduceEqDiff,reduceIte,reduceAdd,reduceLT,reduceCtorEq,reduceToNat,hl,CL,LTN])
noncomputable def uf (p1 : ac) (p2 : ac) : Option Bool :=
 if p1.Account = p2.Account then
  cj p1.Keys p2.Keys >>= fun y2 =>
  some y2
 else
 some false
theorem zakv (p1 : ac) (p2 : ac) (r : Bool) (h : uf p1 p2 = some r) (τ : TH) (hl : τ.lock ≤ τ.next) : Ru G m5 [.agg [.str p1.Account,.sl (List.map TV.str p1.Keys)],.agg [.str p2.Account,.sl (List.map TV.str p2.Keys)]] τ (.bool r) τ := by
 refine jt fun K hK => ?_
 rw [bx za4b (Nat.le_of_ble_eq_true rfl)]
 unfold uf at h
 by_cases c1 : p1.Account = p2.Account
 · rw [if_pos c1] at h
   obtain ⟨y2,hy2,h⟩ := ob h
   have k3 := qn p1.Keys p2.Keys _ hy2
   try simp only [CL,MC,reduceToNat] at k3
   injection h with h; subst h
   simp -implicitDefEqProofs only [zaty,TT,Ic.t,ci,reduceEqDiff,reduceIte,reduceAdd,reduceLT,reduceCtorEq,reduceToNat,hl,eq_true c1,k3,CL,LTN]
   exact hK
 rw [if_neg c1] at h
 injection h with h; subst h
 simp -implicitDefEqProofs only [zaty,TT,Ic.t,ci,reduceEqDiff,reduceIte,reduceAdd,reduceLT,reduceCtorEq,reduceToNat,hl,c1,CL,LTN]
 exact hK
theorem zax5 (p1 : ac) (p2 : ac) (r : Bool) (h : uf p1 p2 = some r) (lk : Bool) (d : Option Nat) (K : aw) (fr : TF) (tk : TK) (τ : TH) (hl : τ.lock ≤ τ.next) : fo G lk m5 [.agg [.str p1.Account,.sl (List.map TV.str p1.Keys)],.agg [.str p2.Account,.sl (List.map TV.str p2.Keys)]] d K fr tk τ = K (gc fr d (.bool r)) tk τ :=
 bn (zakv p1 p2 r h τ  hl) (zakv p1 p2 r h (τ.locked τ.next)  (Nat.le_refl _) ) (by simp -implicitDefEqProofs only [TT,Ic.t,ci,reduceEqDiff,reduceIte,reduceAdd,reduceLT,reduceCtorEq,reduceToNat,hl,CL,LTN])
noncomputable def am (v0 : (List ac)) (v1 : (List ac)) (v2 : Int) (v3 : Int) : Option (LS (Int) (LX (Unit) (Bool))) :=
 if v3 < v2 then
  ixL v1 v3 >>= fun y2 =>
  ixL v0 v3 >>= fun y4 =>
  uf (⟨y2.Account,y2.Keys⟩ : ac) (⟨y4.Account,y4.Keys⟩ : ac) >>= fun y6 =>
  if y6 = true then
   some (.nx (IntKind.i64.wrap (v3 + (1 : Int))))
  else
  some (.dn (.rt false))
 else
 some (.dn (.ex ()))
noncomputable def aj (v0 : (List ac)) (v1 : (List ac)) (v2 : Int) (v3 : Int) : Option (LX (Unit) (Bool)) := sd (fun st => am v0 v1 v2 st) v3
theorem bz (v0 : (List ac)) (v1 : (List ac)) (v2 : Int) (v3 : Int) : aj v0 v1 v2 v3 = am v0 v1 v2 v3 >>= LS.go (fun st => aj v0 v1 v2 st) := gw (fun st => am v0 v1 v2 st) v3
def bm (v0 : (List ac)) (v1 : (List ac)) (v2 : Int) (v3 : Int) (r : LX (Unit) (Bool)) : Prop := ∀ (τ : TH) (hl : τ.lock ≤ τ.next) (Q : TEx → aw) (hQ0 : ∀ v : Unit,r = (.ex v) → ∀ (fr : TF) (tk2 : TK) (τ2 : TH),tk2.take 0 = [] → τ2.cut τ.next = τ → Q (.exit 0) fr tk2 τ2) (hQ1 : ∀ v : Bool,r = (.rt v) → ∀ (tk2 : TK) (τ2 : TH),τ2.cut τ.next = τ → Q .ret [(6,.bool v)] tk2 τ2) ,tW G (.loop [1,2,15,16,17] bd) Q [(1,.sl (List.map ac.tv v0)),(2,.func m5 [] []),(15,.sl (List.map ac.tv v1)),(16,.int .i64 v2),(17,.int .i64 v3)] [] τ
theorem jz (v0 : (List ac)) (v1 : (List ac)) (v2 : Int) (v3 : Int) (r : LX (Unit) (Bool)) (h : aj v0 v1 v2 v3 = some r) : bm v0 v1 v2 v3 r := by
 refine ff (f := fun st => am v0 v1 v2 st) (P := fun st r => ∀ (v3 : Int),v3 = st → bm v0 v1 v2 v3 r) ?_ h v3 rfl
 clear h r v3
 intro st o h r ih v3 hst τ  hl Q hQ0 hQ1
 subst hst
 have h : am v0 v1 v2 v3 = some o := h
 unfold am at h
 refine pb fun LQ hn hr he => ?_
 by_cases c1 : v3 < v2
 · rw [if_pos c1] at h
   obtain ⟨y2,hy2,h⟩ := ob h
   have f3 := dd hy2
   have f3a := (f3.2.2 ac.tv).1
   have f3b := (f3.2.2 ac.tv).2
   try simp only [CL,MC,reduceToNat] at f3 f3a f3b
   obtain ⟨y4,hy4,h⟩ := ob h
   have f5 := dd hy4
   have f5a := (f5.2.2 ac.tv).1
   have f5b := (f5.2.2 ac.tv).2
   try simp only [CL,MC,reduceToNat] at f5 f5a f5b
   obtain ⟨y6,hy6,h⟩ := ob h
   have k7 := zax5 (⟨y2.Account,y2.Keys⟩ : ac) (⟨y4.Account,y4.Keys⟩ : ac) _ hy6
   try simp only [CL,MC,reduceToNat] at k7
   by_cases c8 : y6 = true
   · rw [if_pos c8] at h
     injection h with h; subst h
     have ih := ih (IntKind.i64.wrap (v3 + (1 : Int))) rfl
     unfold bm at ih
     simp -implicitDefEqProofs only [bd,av,TT,Ic.t,ci,reduceEqDiff,reduceIte,reduceAdd,reduceLT,reduceCtorEq,reduceToNat,hl,c1,f3.1,f3.2.1,f3a,f3b,f5.1,f5.2.1,f5a,f5b,k7,c8,CL,LTN]
     rw [hn]
     simp -implicitDefEqProofs only [TT,Ic.t,ci,reduceEqDiff,reduceIte,reduceAdd,reduceLT,reduceCtorEq,reduceToNat,hl,c1,f3.1,f3.2.1,f3a,f3b,f5.1,f5.2.1,f5a,f5b,k7,c8,CL,LTN]
     exact ih  τ    (by first | assumption | (simp only [ag,ak]; assumption)) Q hQ0 hQ1
   rw [if_neg c8] at h
   have c8 := Bool.eq_false_iff.2 c8
   injection h with h; subst h
   obtain rfl : _ = r := ih
   simp -implicitDefEqProofs only [bd,av,TT,Ic.t,ci,reduceEqDiff,reduceIte,reduceAdd,reduceLT,reduceCtorEq,reduceToNat,hl,he,hr,c1,f3.1,f3.2.1,f3a,f3b,f5.1,f5.2.1,f5a,f5b,k7,c8,CL,LTN]
   exact hQ1 false rfl  _ _  (by first | exact kd (Nat.le_refl _) | (simp -implicitDefEqProofs only [TT,Ic.t,ci,reduceEqDiff,reduceIte,reduceAdd,reduceLT,reduceCtorEq,reduceToNat,hl,c1,f3.1,f3.2.1,f3a,f3b,f5.1,f5.2.1,f5a,f5b,k7,c8,CL,LTN]))
 rw [if_neg c1] at h
 injection h with h; subst h
 obtain rfl : _ = r := ih
 simp -implicitDefEqProofs only [bd,av,TT,Ic.t,ci,reduceEqDiff,reduceIte,reduceAdd,reduceLT,reduceCtorEq,reduceToNat,hl,he,hr,c1,CL,LTN]
 exact hQ0 () rfl  _ _ _   (by first | rfl | (simp -implicitDefEqProofs only [TT,Ic.t,ci,reduceEqDiff,reduceIte,reduceAdd,reduceLT,reduceCtorEq,reduceToNat,hl,c1,CL,LTN])) (by first | exact kd (Nat.le_refl _) | (simp -implicitDefEqProofs only [TT,Ic.t,ci,reduceEqDiff,reduceIte,reduceAdd,reduceLT,reduceCtorEq,reduceToNat,hl,c1,CL,LTN]))
noncomputable def ax (p1 : (List ac)) (p2 : (List ac)) : Option Bool :=
 if ((p1.length : Nat) : Int) = ((p2.length : Nat) : Int) then
  aj p2 p1 ((p1.length : Nat) : Int) (0 : Int) >>= fun y2 =>
  match y2 with
  | .ex w3 =>
   some true
  | .rt w5 =>
   some w5
 else
 some false
theorem en (p1 : (List ac)) (p2 : (List ac)) (r : Bool) (h : ax p1 p2 = some r) (τ : TH) (hl : τ.lock ≤ τ.next) : Ru G az [.sl (List.map ac.tv p1),.sl (List.map ac.tv p2),.func m5 [] []] τ (.bool r) τ := by
 refine jt fun K hK => ?_
 rw [bx lg (Nat.le_of_ble_eq_true rfl)]
 unfold ax at h
 by_cases c1 : ((p1.length : Nat) : Int) = ((p2.length : Nat) : Int)
 · rw [if_pos c1] at h
   obtain ⟨y2,hy2,h⟩ := ob h
   simp -implicitDefEqProofs only [av,TT,Ic.t,ci,reduceEqDiff,reduceIte,reduceAdd,reduceLT,reduceCtorEq,reduceToNat,hl,eq_true c1,CL,LTN]
   have Sy2 := jz p2 p1 ((p1.length : Nat) : Int) (0 : Int) y2 hy2
   unfold bm at Sy2
   refine Sy2 _ (by first | assumption | omega | (simp only [ag,ap,ak,bb]; omega)) _ ?_ ?_
   · intro w3 e frq4 tkq4 τq4 htq4 hcq4
     subst e
     simp only at h
     have hcq4 := ga (n := τ.next) hcq4 (by first | omega | (simp only [ag,ap]; omega))
     try simp only [List.take_succ_cons,List.take_zero,List.take_nil,CL] at htq4
     try simp -implicitDefEqProofs only [TT,Ic.t,ci,reduceEqDiff,reduceIte,reduceAdd,reduceLT,reduceCtorEq,reduceToNat,hl,eq_true c1,CL,LTN] at hcq4
     injection h with h; subst h
     simp -implicitDefEqProofs only [av,TT,Ic.t,ci,reduceEqDiff,reduceIte,reduceAdd,reduceLT,reduceCtorEq,reduceToNat,hl,eq_true c1,htq4,hcq4,CL,LTN]
     exact hK
   intro w5 e tkq6 τq6 hcq6
   subst e
   simp only at h
   have hcq6 := ga (n := τ.next) hcq6 (by first | omega | (simp only [ag,ap]; omega))
   try simp -implicitDefEqProofs only [TT,Ic.t,ci,reduceEqDiff,reduceIte,reduceAdd,reduceLT,reduceCtorEq,reduceToNat,hl,eq_true c1,CL,LTN] at hcq6
   injection h with h; subst h
   simp -implicitDefEqProofs only [av,TT,Ic.t,ci,reduceEqDiff,reduceIte,reduceAdd,reduceLT,reduceCtorEq,reduceToNat,hl,eq_true c1,hcq6,CL,LTN]
   exact hK
 rw [if_neg c1] at h
 injection h with h; subst h
 simp -implicitDefEqProofs only [av,TT,Ic.t,ci,reduceEqDiff,reduceIte,reduceAdd,reduceLT,reduceCtorEq,reduceToNat,hl,c1,CL,LTN]
 exact hK
theorem kg (p1 : (List ac)) (p2 : (List ac)) (r : Bool) (h : ax p1 p2 = some r) (lk : Bool) (d : Option Nat) (K : aw) (fr : TF) (tk : TK) (τ : TH) (hl : τ.lock ≤ τ.next) : fo G lk az [.sl (List.map ac.tv p1),.sl (List.map ac.tv p2),.func m5 [] []] d K fr tk τ = K (gc fr d (.bool r)) tk τ :=
 bn (en p1 p2 r h τ  hl) (en p1 p2 r h (τ.locked τ.next)  (Nat.le_refl _) ) (by simp -implicitDefEqProofs only [TT,Ic.t,ci,reduceEqDiff,reduceIte,reduceAdd,reduceLT,reduceCtorEq,reduceToNat,hl,CL,LTN])
noncomputable def bc (v0 : (List af)) (v1 : (List af)) (v2 : Int) (v3 : Int) : Option (LS (Int) (LX (Unit) (Bool))) :=
 if v3 < v2 then
  ixL v0 v3 >>= fun y2 =>
  ixL v1 v3 >>= fun y4 =>
  if ((y2.From == y4.From) && ((y2.To == y4.To) && ((y2.Ledger == y4.Ledger) && ((y2.Asset == y4.Asset) && (y2.Amount == y4.Amount))))) = true then
   some (.nx (IntKind.i64.wrap (v3 + (1 : Int))))
  else
  some (.dn (.rt false))
 else
 some (.dn (.ex ()))
noncomputable def ba (v0 : (List af)) (v1 : (List af)) (v2 : Int) (v3 : Int) : Option (LX (Unit) (Bool)) := sd (fun st => bc v0 v1 v2 st) v3
theorem im (v0 : (List af)) (v1 : (List af)) (v2 : Int) (v3 : Int) : ba v0 v1 v2 v3 = bc v0 v1 v2 v3 >>= LS.go (fun st => ba v0 v1 v2 st) := gw (fun st => bc v0 v1 v2 st) v3
def fy (v0 : (List af)) (v1 : (List af)) (v2 : Int) (v3 : Int) (r : LX (Unit) (Bool)) : Prop := ∀ (τ : TH) (hl : τ.lock ≤ τ.next) (Q : TEx → aw) (hQ0 : ∀ v : Unit,r = (.ex v) → ∀ (fr : TF) (tk2 : TK) (τ2 : TH),tk2.take 0 = [] → τ2.cut τ.next = τ → Q (.exit 0) fr tk2 τ2) (hQ1 : ∀ v : Bool,r = (.rt v) → ∀ (tk2 : TK) (τ2 : TH),τ2.cut τ.next = τ → Q .ret [(4,.bool v)] tk2 τ2) ,tW G (.loop [0,1,12,13] ek) Q [(0,.sl (List.map af.tv v0)),(1,.sl (List.map af.tv v1)),(12,.int .i64 v2),(13,.int .i64 v3)] [] τ
theorem xj (v0 : (List af)) (v1 : (List af)) (v2 : Int) (v3 : Int) (r : LX (Unit) (Bool)) (h : ba v0 v1 v2 v3 = some r) : fy v0 v1 v2 v3 r := by
 refine ff (f := fun st => bc v0 v1 v2 st) (P := fun st r => ∀ (v3 : Int),v3 = st → fy v0 v1 v2 v3 r) ?_ h v3 rfl
 clear h r v3
 intro st o h r ih v3 hst τ  hl Q hQ0 hQ1
 subst hst
 have h : bc v0 v1 v2 v3 = some o := h
 unfold bc at h
 refine pb fun LQ hn hr he => ?_
 by_cases c1 : v3 < v2
 · rw [if_pos c1] at h
   obtain ⟨y2,hy2,h⟩ := ob h
   have f3 := dd hy2
   have f3a := (f3.2.2 af.tv).1
   have f3b := (f3.2.2 af.tv).2
   try simp only [CL,MC,reduceToNat] at f3 f3a f3b
   obtain ⟨y4,hy4,h⟩ := ob h
   have f5 := dd hy4
   have f5a := (f5.2.2 af.tv).1
   have f5b := (f5.2.2 af.tv).2
   try simp only [CL,MC,reduceToNat] at f5 f5a f5b
   by_cases c6 : ((y2.From == y4.From) && ((y2.To == y4.To) && ((y2.Ledger == y4.Ledger) && ((y2.Asset == y4.Asset) && (y2.Amount == y4.Amount))))) = true
   · rw [if_pos c6] at h
     injection h with h; subst h
     have ih := ih (IntKind.i64.wrap (v3 + (1 : Int))) rfl
     unfold fy at ih
     simp -implicitDefEqProofs only [ek,dc,TT,Ic.t,ci,reduceEqDiff,reduceIte,reduceAdd,reduceLT,reduceCtorEq,reduceToNat,hl,c1,f3.1,f3.2.1,f3a,f3b,f5.1,f5.2.1,f5a,f5b,teqs,teq,c6,CL,LTN]
     rw [hn]
     simp -implicitDefEqProofs only [TT,Ic.t,ci,reduceEqDiff,reduceIte,reduceAdd,reduceLT,reduceCtorEq,reduceToNat,hl,c1,f3.1,f3.2.1,f3a,f3b,f5.1,f5.2.1,f5a,f5b,teqs,teq,c6,CL,LTN]
     exact ih  τ    (by first | assumption | (simp only [ag,ak]; assumption)) Q hQ0 hQ1
   rw [if_neg c6] at h
   have c6 := Bool.eq_false_iff.2 c6
   injection h with h; subst h
   obtain rfl : _ = r := ih
   simp -implicitDefEqProofs only [ek,dc,TT,Ic.t,ci,reduceEqDiff,reduceIte,reduceAdd,reduceLT,reduceCtorEq,reduceToNat,hl,he,hr,c1,f3.1,f3.2.1,f3a,f3b,f5.1,f5.2.1,f5a,f5b,teqs,teq,c6,CL,LTN]
   exact hQ1 false rfl  _ _  (by first | exact kd (Nat.le_refl _) | (simp -implicitDefEqProofs only [TT,Ic.t,ci,reduceEqDiff,reduceIte,reduceAdd,reduceLT,reduceCtorEq,reduceToNat,hl,c1,f3.1,f3.2.1,f3a,f3b,f5.1,f5.2.1,f5a,f5b,teqs,teq,c6,CL,LTN]))
 rw [if_neg c1] at h
 injection h with h; subst h
 obtain rfl : _ = r := ih
 simp -implicitDefEqProofs only [ek,dc,TT,Ic.t,ci,reduceEqDiff,reduceIte,reduceAdd,reduceLT,reduceCtorEq,reduceToNat,hl,he,hr,c1,CL,LTN]
 exact hQ0 () rfl  _ _ _   (by first | rfl | (simp -implicitDefEqProofs only [TT,Ic.t,ci,reduceEqDiff,reduceIte,reduceAdd,reduceLT,reduceCtorEq,reduceToNat,hl,c1,CL,LTN])) (by first | exact kd (Nat.le_refl _) | (simp -implicitDefEqProofs only [TT,Ic.t,ci,reduceEqDiff,reduceIte,reduceAdd,reduceLT,reduceCtorEq,reduceToNat,hl,c1,CL,LTN]))
noncomputable def dz (p1 : (List af)) (p2 : (List af)) : Option Bool :=
 if ((p1.length : Nat) : Int) = ((p2.length : Nat) : Int) then
  ba p1 p2 ((p1.length : Nat) : Int) (0 : Int) >>= fun y2 =>
  match y2 with
  | .ex w3 =>
   some true
  | .rt w5 =>
   some w5
 else
 some false
theorem pf (p1 : (List af)) (p2 : (List af)) (r : Bool) (h : dz p1 p2 = some r) (τ : TH) (hl : τ.lock ≤ τ.next) : Ru G d4 [.sl (List.map af.tv p1),.sl (List.map af.tv p2)] τ (.bool r) τ := by
 refine jt fun K hK => ?_
 rw [bx zac5 (Nat.le_of_ble_eq_true rfl)]
 unfold dz at h
 by_cases c1 : ((p1.length : Nat) : Int) = ((p2.length : Nat) : Int)
 · rw [if_pos c1] at h
   obtain ⟨y2,hy2,h⟩ := ob h
   simp -implicitDefEqProofs only [dc,TT,Ic.t,ci,reduceEqDiff,reduceIte,reduceAdd,reduceLT,reduceCtorEq,reduceToNat,hl,eq_true c1,CL,LTN]
   have Sy2 := xj p1 p2 ((p1.length : Nat) : Int) (0 : Int) y2 hy2
   unfold fy at Sy2
   refine Sy2 _ (by first | assumption | omega | (simp only [ag,ap,ak,bb]; omega)) _ ?_ ?_
   · intro w3 e frq4 tkq4 τq4 htq4 hcq4
     subst e
     simp only at h
     have hcq4 := ga (n := τ.next) hcq4 (by first | omega | (simp only [ag,ap]; omega))
     try simp only [List.take_succ_cons,List.take_zero,List.take_nil,CL] at htq4
     try simp -implicitDefEqProofs only [TT,Ic.t,ci,reduceEqDiff,reduceIte,reduceAdd,reduceLT,reduceCtorEq,reduceToNat,hl,eq_true c1,CL,LTN] at hcq4
     injection h with h; subst h
     simp -implicitDefEqProofs only [dc,TT,Ic.t,ci,reduceEqDiff,reduceIte,reduceAdd,reduceLT,reduceCtorEq,reduceToNat,hl,eq_true c1,htq4,hcq4,CL,LTN]
     exact hK
   intro w5 e tkq6 τq6 hcq6
   subst e
   simp only at h
   have hcq6 := ga (n := τ.next) hcq6 (by first | omega | (simp only [ag,ap]; omega))
   try simp -implicitDefEqProofs only [TT,Ic.t,ci,reduceEqDiff,reduceIte,reduceAdd,reduceLT,reduceCtorEq,reduceToNat,hl,eq_true c1,CL,LTN] at hcq6
   injection h with h; subst h
   simp -implicitDefEqProofs only [dc,TT,Ic.t,ci,reduceEqDiff,reduceIte,reduceAdd,reduceLT,reduceCtorEq,reduceToNat,hl,eq_true c1,hcq6,CL,LTN]
   exact hK
 rw [if_neg c1] at h
 injection h with h; subst h
 simp -implicitDefEqProofs only [dc,TT,Ic.t,ci,reduceEqDiff,reduceIte,reduceAdd,reduceLT,reduceCtorEq,reduceToNat,hl,c1,CL,LTN]
 exact hK
theorem zaau (p1 : (List af)) (p2 : (List af)) (r : Bool) (h : dz p1 p2 = some r) (lk : Bool) (d : Option Nat) (K : aw) (fr : TF) (tk : TK) (τ : TH) (hl : τ.lock ≤ τ.next) : fo G lk d4 [.sl (List.map af.tv p1),.sl (List.map af.tv p2)] d K fr tk τ = K (gc fr d (.bool r)) tk τ :=
 bn (pf p1 p2 r h τ  hl) (pf p1 p2 r h (τ.locked τ.next)  (Nat.le_refl _) ) (by simp -implicitDefEqProofs only [TT,Ic.t,ci,reduceEqDiff,reduceIte,reduceAdd,reduceLT,reduceCtorEq,reduceToNat,hl,CL,LTN])
end Go.Proofs.Ytdcfoaafkppojaa
