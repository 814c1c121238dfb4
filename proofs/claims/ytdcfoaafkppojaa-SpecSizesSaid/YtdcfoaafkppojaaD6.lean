import Derived.Test.YtdcfoaafkppojaaD5
set_option linter.unusedVariables false
set_option linter.unusedSimpArgs false
set_option linter.unusedSectionVars false
open Nat (reduceEqDiff reduceAdd reduceMul reduceLT reduceLeDiff reduceSub)
open Int (reduceToNat reduceNe reduceEq reduceNeg reduceLE)
namespace Go.Proofs.Ytdcfoaafkppojaa
open Go Go.RowKit Sh Ic
noncomputable section
def uu (p1 : aa) : Option (ac × aa) :=
 m5 p1 >>= fun y1 =>
 ix y1.2 (3 : Int) >>= fun y3 =>
 some ((⟨y1.1,y3.1⟩ : ac),y3.2)
theorem zc5u (p1 : aa) (r : ac × aa) (h : uu p1 = some r) (τ : TH) (o0 : Nat) (o1 : Nat) (o2 : Nat) (hl : τ.lock ≤ τ.next) (ha0 : τ.at o0 = some ⟨kb,[.func dt [] [.ptr o1 0]]⟩) (hi0 : o0 < τ.next) (ha1 : τ.at o1 = some ⟨cz,[.ptr o2 0]⟩) (hi1 : o1 < τ.next) (ha2 : τ.at o2 = some ⟨ah,[.str p1.s_,.bool p1.bad_]⟩) (hi2 : o2 < τ.next) (hw2 : τ.lock ≤ o2) (hn0_2 : o0 ≠ o2) (hn1_2 : o1 ≠ o2) : Ru G nh [.ptr o0 0,.ptr o1 0] τ (.agg [.str r.1.Account,.sl (List.map TV.str r.1.Keys)]) (τ.put o2 ⟨ah,[.str r.2.s_,.bool r.2.bad_]⟩) := by
 refine jv fun K hK => ?_
 rw [bx zdaz (Nat.le_of_ble_eq_true rfl)]
 unfold uu at h
 obtain ⟨y1,hy1,h⟩ := ob h
 have k2 := fun (d : Option Nat) (K : av) (fr : TF) (tk : TK) (τ' : TH) (o'0 : Nat) => zb9s p1 _ hy1 d K fr tk τ' o'0 o2
 try simp only [CL,MC,reduceToNat] at k2
 obtain ⟨y3,hy3,h⟩ := ob h
 have k4 := zcwe y1.2 (3 : Int) _ hy3
 try simp only [CL,MC,reduceToNat] at k4
 injection h with h; subst h
 simp -implicitDefEqProofs only [lkp.eq_1,oh,og,od,oa,List.isEmpty_cons,iw,fy,tSg,tT,tS,tD,pnT,j6,kh,pnK,n9,kj,List.filter_cons,List.filter_nil,List.filterMap_cons,List.filterMap_nil,cy,gb,qc,fh,Ins.dsts,Ins.looks,I.ops,we,u5,List.all_cons,List.all_nil,List.any_cons,List.any_nil,List.contains_cons,List.contains_nil,List.append_nil,List.nil_append,List.cons_append,Option.toList_some,Option.toList_none,Option.isSome_some,Option.isSome_none,Bool.and_true,Bool.true_and,Bool.and_false,Bool.false_and,Bool.or_false,Bool.false_or,Bool.or_true,Bool.true_or,Bool.not_false,Bool.not_true,and_true,true_and,and_false,false_and,Nat.reduceBEq,bne_iff_ne,zdad,TT,Ic.t,ci,reduceEqDiff,reduceIte,reduceAdd,reduceMul,reduceLT,reduceLeDiff,reduceSub,reduceCtorEq,reduceEq,reduceNe,reduceToNat,Int.reduceLT,reduceLE,reduceNeg,hl,ha0,hi0,ha1,hi1,ha2,hi2,hw2,nq hn0_2,nq hn1_2,k2,k4,CL,LTN]
 exact hK
theorem zc50 (p1 : aa) (r : ac × aa) (h : uu p1 = some r) (d : Option Nat) (K : av) (fr : TF) (tk : TK) (τ : TH) (o0 : Nat) (o1 : Nat) (o2 : Nat) (hl : τ.lock ≤ τ.next) (ha0 : τ.at o0 = some ⟨kb,[.func dt [] [.ptr o1 0]]⟩) (hi0 : o0 < τ.next) (ha1 : τ.at o1 = some ⟨cz,[.ptr o2 0]⟩) (hi1 : o1 < τ.next) (ha2 : τ.at o2 = some ⟨ah,[.str p1.s_,.bool p1.bad_]⟩) (hi2 : o2 < τ.next) (hw2 : τ.lock ≤ o2) (hn0_2 : o0 ≠ o2) (hn1_2 : o1 ≠ o2) : fp G false nh [.ptr o0 0,.ptr o1 0] d K fr tk τ = K (gg fr d (.agg [.str r.1.Account,.sl (List.map TV.str r.1.Keys)])) tk (τ.put o2 ⟨ah,[.str r.2.s_,.bool r.2.bad_]⟩) :=
 n7 (zc5u p1 r h τ o0 o1 o2 hl ha0 hi0 ha1 hi1 ha2 hi2 hw2 hn0_2 hn1_2) (by simp -implicitDefEqProofs only [TT,Ic.t,ci,reduceEqDiff,reduceIte,reduceAdd,reduceLT,reduceCtorEq,reduceToNat,hl,ha0,hi0,ha1,hi1,ha2,hi2,hw2,nq hn0_2,nq hn1_2,CL,LTN])
def b7 (v2 : Int) (v0 : aa) (v1 : (List ac)) (v3 : Int) : Option (LS (aa × (List ac) × Int) ((List ac) × aa)) :=
 if v3 < v2 then
  uu v0 >>= fun y2 =>
  if (v1.length + 1) * 40 ≤ 140737488355328 then
   some (.nx (y2.2,(v1 ++ [y2.1]),(IntKind.i64.wrap (v3 + (1 : Int)))))
  else
   none
 else
 some (.dn (v1,v0))
def eh (v2 : Int) (v0 : aa) (v1 : (List ac)) (v3 : Int) : Option ((List ac) × aa) := sq (fun st => b7 v2 st.1 st.2.1 st.2.2) (v0,v1,v3)
theorem ta (v2 : Int) (v0 : aa) (v1 : (List ac)) (v3 : Int) : eh v2 v0 v1 v3 = b7 v2 v0 v1 v3 >>= LS.go (fun st => eh v2 st.1 st.2.1 st.2.2) := gy (fun st => b7 v2 st.1 st.2.1 st.2.2) (v0,v1,v3)
def jz (v2 : Int) (v0 : aa) (v1 : (List ac)) (v3 : Int) (r : (List ac) × aa) : Prop := ∀ (τ : TH) (o0 : Nat) (o1 : Nat) (o2 : Nat) (n0 : Nat) (ty0 : TypeId) (hnn0 : n0 = v1.length) (hty0 : n0 = 0 ∨ ty0 = dq) (hl : τ.lock ≤ τ.next) (ha0 : τ.at o0 = some ⟨kb,[.func dt [] [.ptr o1 0]]⟩) (hi0 : o0 < τ.next) (ha1 : τ.at o1 = some ⟨cz,[.ptr o2 0]⟩) (hi1 : o1 < τ.next) (ha2 : τ.at o2 = some ⟨ah,[.str v0.s_,.bool v0.bad_]⟩) (hi2 : o2 < τ.next) (hw2 : τ.lock ≤ o2) (hn0_2 : o0 ≠ o2) (hn1_2 : o1 ≠ o2) (Q : TEx → av) (hQ0 : ∀ (fr : TF) (tk2 : TK) (τ2 : TH),∀ (u0 : TypeId),(r.1.length = 0 ∨ u0 = dq) → lkp fr 7 = .sla 0 (List.map ac.tv r.1) → tk2.take 1 = [some (r.1.length,u0)] → τ2.cut τ.next = (τ.put o2 ⟨ah,[.str r.2.s_,.bool r.2.bad_]⟩) → Q (.exit 0) fr tk2 τ2) ,tW G (.loop [2,7,10,11] mj) Q [(2,.func nh [] [.ptr o0 0,.ptr o1 0]),(7,.sla 0 (List.map ac.tv v1)),(10,.int .i64 v2),(11,.int .i64 v3)] [some (n0,ty0)] τ
theorem zc81 (v2 : Int) (v0 : aa) (v1 : (List ac)) (v3 : Int) (r : (List ac) × aa) (h : eh v2 v0 v1 v3 = some r) : jz v2 v0 v1 v3 r := by
 refine fg (f := fun st => b7 v2 st.1 st.2.1 st.2.2) (P := fun st r => ∀ (v0 : aa) (v1 : (List ac)) (v3 : Int),(v0,v1,v3) = st → jz v2 v0 v1 v3 r) ?_ h v0 v1 v3 rfl
 clear h r v3 v1 v0
 intro st o h r ih v0 v1 v3 hst τ o0 o1 o2  n0 ty0 hnn0 hty0 hl ha0 hi0 ha1 hi1 ha2 hi2 hw2 hn0_2 hn1_2 Q hQ0
 subst hst
 have h : b7 v2 v0 v1 v3 = some o := h
 unfold b7 at h
 subst hnn0
 refine pj fun LQ hn hr he => ?_
 by_cases c1 : v3 < v2
 · rw [if_pos c1] at h
   obtain ⟨y2,hy2,h⟩ := ob h
   have k3 := fun (d : Option Nat) (K : av) (fr : TF) (tk : TK) (τ' : TH) (o'0 : Nat) (o'1 : Nat) => zc50 v0 _ hy2 d K fr tk τ' o'0 o'1 o2
   try simp only [CL,MC,reduceToNat] at k3
   obtain ⟨c4,h⟩ := ifS h
   have f5 : 1 ≤ maxLen := by unfold maxLen; omega
   have f6 : v1.length + 1 ≤ maxLen := by unfold maxLen; omega
   have f7 : ((List.map ac.tv v1).all fun e => e.cells.length == 2) = true := zbl7 (fun _ => rfl) _
   have f8 : List.map ac.tv v1 ++ List.map ac.tv [y2.1] = List.map ac.tv (v1 ++ [y2.1]) := zbt4 _ _
   try simp only [CL,List.map_cons,List.map_nil] at f8
   injection h with h; subst h
   have ih := ih y2.2 (v1 ++ [y2.1]) (IntKind.i64.wrap (v3 + (1 : Int))) rfl
   unfold jz at ih
   simp -implicitDefEqProofs only [mj,n8,TT,Ic.t,ci,reduceEqDiff,reduceIte,reduceAdd,reduceMul,reduceLT,reduceLeDiff,reduceSub,reduceCtorEq,reduceEq,reduceNe,reduceToNat,Int.reduceLT,reduceLE,reduceNeg,hl,ha0,hi0,ha1,hi1,ha2,hi2,hw2,nq hn0_2,nq hn1_2,hty0,c1,k3,c4,f5,f6,f7,f8,CL,LTN]
   rw [hn]
   simp -implicitDefEqProofs only [TT,Ic.t,ci,reduceEqDiff,reduceIte,reduceAdd,reduceMul,reduceLT,reduceLeDiff,reduceSub,reduceCtorEq,reduceEq,reduceNe,reduceToNat,Int.reduceLT,reduceLE,reduceNeg,hl,ha0,hi0,ha1,hi1,ha2,hi2,hw2,nq hn0_2,nq hn1_2,hty0,c1,k3,c4,f5,f6,f7,f8,CL,LTN]
   exact ih  (τ.put o2 ⟨ah,[.str y2.2.s_,.bool y2.2.bad_]⟩) o0 o1 o2  (v1.length + 1) dq (by first | rfl | simp [ay]) (by first | exact hty0 | exact Or.inr rfl | assumption | simp) (by first | assumption | (simp only [ag,ak]; assumption)) (by simp -implicitDefEqProofs only [TT,Ic.t,ci,reduceEqDiff,reduceIte,reduceAdd,reduceMul,reduceLT,reduceLeDiff,reduceSub,reduceCtorEq,reduceEq,reduceNe,reduceToNat,Int.reduceLT,reduceLE,reduceNeg,hl,ha0,hi0,ha1,hi1,ha2,hi2,hw2,nq hn0_2,nq hn1_2,hty0,c1,k3,c4,f5,f6,f7,f8,CL,LTN]) (by first | assumption | (simp only [ag,ak]; assumption)) (by simp -implicitDefEqProofs only [TT,Ic.t,ci,reduceEqDiff,reduceIte,reduceAdd,reduceMul,reduceLT,reduceLeDiff,reduceSub,reduceCtorEq,reduceEq,reduceNe,reduceToNat,Int.reduceLT,reduceLE,reduceNeg,hl,ha0,hi0,ha1,hi1,ha2,hi2,hw2,nq hn0_2,nq hn1_2,hty0,c1,k3,c4,f5,f6,f7,f8,CL,LTN]) (by first | assumption | (simp only [ag,ak]; assumption)) (by simp -implicitDefEqProofs only [TT,Ic.t,ci,reduceEqDiff,reduceIte,reduceAdd,reduceMul,reduceLT,reduceLeDiff,reduceSub,reduceCtorEq,reduceEq,reduceNe,reduceToNat,Int.reduceLT,reduceLE,reduceNeg,hl,ha0,hi0,ha1,hi1,ha2,hi2,hw2,nq hn0_2,nq hn1_2,hty0,c1,k3,c4,f5,f6,f7,f8,CL,LTN]) (by first | assumption | (simp only [ag,ak]; assumption)) (by first | assumption | (simp only [ag,ak]; assumption)) hn0_2 hn1_2 Q (fun fr tk2 τ2 u0 u0' g0 ht hτ => hQ0 fr tk2 τ2 u0 u0' g0 ht (by first | exact hτ | simpa only [ag,zbjv,hl,ha0,hi0,ha1,hi1,ha2,hi2,hw2,nq hn0_2,nq hn1_2,hty0] using hτ))
 rw [if_neg c1] at h
 injection h with h; subst h
 obtain rfl : _ = r := ih
 simp -implicitDefEqProofs only [mj,n8,TT,Ic.t,ci,reduceEqDiff,reduceIte,reduceAdd,reduceMul,reduceLT,reduceLeDiff,reduceSub,reduceCtorEq,reduceEq,reduceNe,reduceToNat,Int.reduceLT,reduceLE,reduceNeg,hl,ha0,hi0,ha1,hi1,ha2,hi2,hw2,nq hn0_2,nq hn1_2,hty0,he,hr,c1,CL,LTN]
 exact hQ0  _ _ _ ty0 (by first | exact hty0 | exact Or.inr rfl | assumption | simp) (by first | rfl | (simp -implicitDefEqProofs only [TT,Ic.t,ci,reduceEqDiff,reduceIte,reduceAdd,reduceMul,reduceLT,reduceLeDiff,reduceSub,reduceCtorEq,reduceEq,reduceNe,reduceToNat,Int.reduceLT,reduceLE,reduceNeg,hl,ha0,hi0,ha1,hi1,ha2,hi2,hw2,nq hn0_2,nq hn1_2,hty0,c1,CL,LTN])) (by first | rfl | (simp -implicitDefEqProofs only [TT,Ic.t,ci,reduceEqDiff,reduceIte,reduceAdd,reduceMul,reduceLT,reduceLeDiff,reduceSub,reduceCtorEq,reduceEq,reduceNe,reduceToNat,Int.reduceLT,reduceLE,reduceNeg,hl,ha0,hi0,ha1,hi1,ha2,hi2,hw2,nq hn0_2,nq hn1_2,hty0,c1,CL,LTN])) (by first | exact kf (Nat.le_refl _) | (simp -implicitDefEqProofs only [TT,Ic.t,ci,reduceEqDiff,reduceIte,reduceAdd,reduceMul,reduceLT,reduceLeDiff,reduceSub,reduceCtorEq,reduceEq,reduceNe,reduceToNat,Int.reduceLT,reduceLE,reduceNeg,hl,ha0,hi0,ha1,hi1,ha2,hi2,hw2,nq hn0_2,nq hn1_2,hty0,mi ha2,c1,CL,LTN]))
def ig (p1 : aa) (p2 : Int) : Option ((List ac) × aa) :=
 d5 p1 p2 >>= fun y1 =>
 eh y1.1 y1.2 [] (0 : Int) >>= fun y3 =>
 some (y3.1,y3.2)
theorem zc8r (p1 : aa) (p2 : Int) (r : (List ac) × aa) (h : ig p1 p2 = some r) (τ : TH) (o0 : Nat) (o1 : Nat) (o2 : Nat) (hl : τ.lock ≤ τ.next) (ha0 : τ.at o0 = some ⟨ah,[.str p1.s_,.bool p1.bad_]⟩) (hi0 : o0 < τ.next) (hw0 : τ.lock ≤ o0) (ha1 : τ.at o1 = some ⟨kb,[.func dt [] [.ptr o2 0]]⟩) (hi1 : o1 < τ.next) (ha2 : τ.at o2 = some ⟨cz,[.ptr o0 0]⟩) (hi2 : o2 < τ.next) (hn0_1 : o0 ≠ o1) (hn0_2 : o0 ≠ o2) : Ru G ik [.ptr o0 0,.int .i64 p2,.func nh [] [.ptr o1 0,.ptr o2 0]] τ (.sl (List.map ac.tv r.1)) (τ.put o0 ⟨ah,[.str r.2.s_,.bool r.2.bad_]⟩) := by
 refine jv fun K hK => ?_
 rw [bx zc8d (Nat.le_of_ble_eq_true rfl)]
 unfold ig at h
 obtain ⟨y1,hy1,h⟩ := ob h
 have k2 := kn p1 p2 _ hy1
 try simp only [CL,MC,reduceToNat] at k2
 obtain ⟨y3,hy3,h⟩ := ob h
 simp -implicitDefEqProofs only [n8,TT,Ic.t,ci,reduceEqDiff,reduceIte,reduceAdd,reduceLT,reduceCtorEq,reduceToNat,hl,ha0,hi0,hw0,ha1,hi1,ha2,hi2,nq hn0_1,nq hn0_2,k2,CL,LTN]
 have Sy3 := zc81 y1.1 y1.2 [] (0 : Int) y3 hy3
 unfold jz at Sy3
 refine Sy3 _ o1 o2 o0 0 0 (by first | rfl | simp [ay]) (by first | exact Or.inl rfl | exact Or.inr rfl | assumption | simp) (by first | assumption | omega | (simp only [ag,ap,ak,bb]; omega)) (by simp -implicitDefEqProofs only [TT,Ic.t,ci,reduceEqDiff,reduceIte,reduceAdd,reduceLT,reduceCtorEq,reduceToNat,hl,ha0,hi0,hw0,ha1,hi1,ha2,hi2,nq hn0_1,nq hn0_2,k2,CL,LTN]) (by first | assumption | omega | (simp only [ag,ap,ak,bb]; omega)) (by simp -implicitDefEqProofs only [TT,Ic.t,ci,reduceEqDiff,reduceIte,reduceAdd,reduceLT,reduceCtorEq,reduceToNat,hl,ha0,hi0,hw0,ha1,hi1,ha2,hi2,nq hn0_1,nq hn0_2,k2,CL,LTN]) (by first | assumption | omega | (simp only [ag,ap,ak,bb]; omega)) (by simp -implicitDefEqProofs only [TT,Ic.t,ci,reduceEqDiff,reduceIte,reduceAdd,reduceLT,reduceCtorEq,reduceToNat,hl,ha0,hi0,hw0,ha1,hi1,ha2,hi2,nq hn0_1,nq hn0_2,k2,CL,LTN]) (by first | assumption | omega | (simp only [ag,ap,ak,bb]; omega)) (by first | assumption | omega | (simp only [ag,ap,ak,bb]; omega)) (by first | assumption | omega | (simp only [ag,ap]; omega)) (by first | assumption | omega | (simp only [ag,ap]; omega)) _ ?_
 intro frq4 tkq4 τq4 u0q4 uh0q4 g7q4 htq4 hcq4
 have hcq4 := gc (n := τ.next) hcq4 (by first | omega | (simp only [ag,ap]; omega))
 try simp only [List.take_succ_cons,List.take_zero,List.take_nil,CL] at htq4
 try simp -implicitDefEqProofs only [TT,Ic.t,ci,reduceEqDiff,reduceIte,reduceAdd,reduceLT,reduceCtorEq,reduceToNat,hl,ha0,hi0,hw0,ha1,hi1,ha2,hi2,nq hn0_1,nq hn0_2,k2,CL,LTN] at hcq4
 injection h with h; subst h
 simp -implicitDefEqProofs only [n8,TT,Ic.t,ci,reduceEqDiff,reduceIte,reduceAdd,reduceLT,reduceCtorEq,reduceToNat,hl,ha0,hi0,hw0,ha1,hi1,ha2,hi2,nq hn0_1,nq hn0_2,k2,uh0q4,g7q4,htq4,hcq4,CL,LTN]
 exact hK
theorem zc8q (p1 : aa) (p2 : Int) (r : (List ac) × aa) (h : ig p1 p2 = some r) (d : Option Nat) (K : av) (fr : TF) (tk : TK) (τ : TH) (o0 : Nat) (o1 : Nat) (o2 : Nat) (hl : τ.lock ≤ τ.next) (ha0 : τ.at o0 = some ⟨ah,[.str p1.s_,.bool p1.bad_]⟩) (hi0 : o0 < τ.next) (hw0 : τ.lock ≤ o0) (ha1 : τ.at o1 = some ⟨kb,[.func dt [] [.ptr o2 0]]⟩) (hi1 : o1 < τ.next) (ha2 : τ.at o2 = some ⟨cz,[.ptr o0 0]⟩) (hi2 : o2 < τ.next) (hn0_1 : o0 ≠ o1) (hn0_2 : o0 ≠ o2) : fp G false ik [.ptr o0 0,.int .i64 p2,.func nh [] [.ptr o1 0,.ptr o2 0]] d K fr tk τ = K (gg fr d (.sl (List.map ac.tv r.1))) tk (τ.put o0 ⟨ah,[.str r.2.s_,.bool r.2.bad_]⟩) :=
 n7 (zc8r p1 p2 r h τ o0 o1 o2 hl ha0 hi0 hw0 ha1 hi1 ha2 hi2 hn0_1 hn0_2) (by simp -implicitDefEqProofs only [TT,Ic.t,ci,reduceEqDiff,reduceIte,reduceAdd,reduceLT,reduceCtorEq,reduceToNat,hl,ha0,hi0,hw0,ha1,hi1,ha2,hi2,nq hn0_1,nq hn0_2,CL,LTN])
def ut (p1 : aa) : Option (af × aa) :=
 df p1 >>= fun y1 =>
 df y1.2 >>= fun y3 =>
 df y3.2 >>= fun y5 =>
 m5 y5.2 >>= fun y7 =>
 df y7.2 >>= fun y9 =>
 some ((⟨y1.1,y3.1,y5.1,y7.1,y9.1⟩ : af),y9.2)
theorem zc5w (p1 : aa) (r : af × aa) (h : ut p1 = some r) (τ : TH) (o0 : Nat) (o1 : Nat) (o2 : Nat) (hl : τ.lock ≤ τ.next) (ha0 : τ.at o0 = some ⟨cz,[.ptr o1 0]⟩) (hi0 : o0 < τ.next) (ha1 : τ.at o1 = some ⟨ah,[.str p1.s_,.bool p1.bad_]⟩) (hi1 : o1 < τ.next) (hw1 : τ.lock ≤ o1) (ha2 : τ.at o2 = some ⟨kb,[.func dt [] [.ptr o0 0]]⟩) (hi2 : o2 < τ.next) (hn0_1 : o0 ≠ o1) (hn1_2 : o1 ≠ o2) : Ru G ng [.ptr o0 0,.ptr o2 0] τ (.agg [.int .i64 r.1.From,.int .i64 r.1.To,.int .i64 r.1.Ledger,.str r.1.Asset,.int .i64 r.1.Amount]) (τ.put o1 ⟨ah,[.str r.2.s_,.bool r.2.bad_]⟩) := by
 refine jv fun K hK => ?_
 rw [bx zda0 (Nat.le_of_ble_eq_true rfl)]
 unfold ut at h
 obtain ⟨y1,hy1,h⟩ := ob h
 have k2 := gj p1 _ hy1
 try simp only [CL,MC,reduceToNat] at k2
 obtain ⟨y3,hy3,h⟩ := ob h
 have k4 := gj y1.2 _ hy3
 try simp only [CL,MC,reduceToNat] at k4
 obtain ⟨y5,hy5,h⟩ := ob h
 have k6 := gj y3.2 _ hy5
 try simp only [CL,MC,reduceToNat] at k6
 obtain ⟨y7,hy7,h⟩ := ob h
 have k8 := fun (d : Option Nat) (K : av) (fr : TF) (tk : TK) (τ' : TH) (o'0 : Nat) => zb9s y5.2 _ hy7 d K fr tk τ' o'0 o1
 try simp only [CL,MC,reduceToNat] at k8
 obtain ⟨y9,hy9,h⟩ := ob h
 have k10 := gj y7.2 _ hy9
 try simp only [CL,MC,reduceToNat] at k10
 injection h with h; subst h
 simp -implicitDefEqProofs only [lkp.eq_1,oh,og,od,oa,List.isEmpty_cons,iw,fy,tSg,tT,tS,tD,pnT,j6,kh,pnK,n9,kj,List.filter_cons,List.filter_nil,List.filterMap_cons,List.filterMap_nil,cy,gb,qc,fh,Ins.dsts,Ins.looks,I.ops,we,u5,List.all_cons,List.all_nil,List.any_cons,List.any_nil,List.contains_cons,List.contains_nil,List.append_nil,List.nil_append,List.cons_append,Option.toList_some,Option.toList_none,Option.isSome_some,Option.isSome_none,Bool.and_true,Bool.true_and,Bool.and_false,Bool.false_and,Bool.or_false,Bool.false_or,Bool.or_true,Bool.true_or,Bool.not_false,Bool.not_true,and_true,true_and,and_false,false_and,Nat.reduceBEq,bne_iff_ne,zdae,TT,Ic.t,ci,reduceEqDiff,reduceIte,reduceAdd,reduceMul,reduceLT,reduceLeDiff,reduceSub,reduceCtorEq,reduceEq,reduceNe,reduceToNat,Int.reduceLT,reduceLE,reduceNeg,hl,ha0,hi0,ha1,hi1,hw1,ha2,hi2,nq hn0_1,nq hn1_2,k2,k4,k6,k8,k10,CL,LTN]
 exact hK
theorem zc5v (p1 : aa) (r : af × aa) (h : ut p1 = some r) (d : Option Nat) (K : av) (fr : TF) (tk : TK) (τ : TH) (o0 : Nat) (o1 : Nat) (o2 : Nat) (hl : τ.lock ≤ τ.next) (ha0 : τ.at o0 = some ⟨cz,[.ptr o1 0]⟩) (hi0 : o0 < τ.next) (ha1 : τ.at o1 = some ⟨ah,[.str p1.s_,.bool p1.bad_]⟩) (hi1 : o1 < τ.next) (hw1 : τ.lock ≤ o1) (ha2 : τ.at o2 = some ⟨kb,[.func dt [] [.ptr o0 0]]⟩) (hi2 : o2 < τ.next) (hn0_1 : o0 ≠ o1) (hn1_2 : o1 ≠ o2) : fp G false ng [.ptr o0 0,.ptr o2 0] d K fr tk τ = K (gg fr d (.agg [.int .i64 r.1.From,.int .i64 r.1.To,.int .i64 r.1.Ledger,.str r.1.Asset,.int .i64 r.1.Amount])) tk (τ.put o1 ⟨ah,[.str r.2.s_,.bool r.2.bad_]⟩) :=
 n7 (zc5w p1 r h τ o0 o1 o2 hl ha0 hi0 ha1 hi1 hw1 ha2 hi2 hn0_1 hn1_2) (by simp -implicitDefEqProofs only [TT,Ic.t,ci,reduceEqDiff,reduceIte,reduceAdd,reduceLT,reduceCtorEq,reduceToNat,hl,ha0,hi0,ha1,hi1,hw1,ha2,hi2,nq hn0_1,nq hn1_2,CL,LTN])
def ch (v2 : Int) (v0 : aa) (v1 : (List af)) (v3 : Int) : Option (LS (aa × (List af) × Int) ((List af) × aa)) :=
 if v3 < v2 then
  ut v0 >>= fun y2 =>
  if (v1.length + 1) * 48 ≤ 140737488355328 then
   some (.nx (y2.2,(v1 ++ [y2.1]),(IntKind.i64.wrap (v3 + (1 : Int)))))
  else
   none
 else
 some (.dn (v1,v0))
def f0 (v2 : Int) (v0 : aa) (v1 : (List af)) (v3 : Int) : Option ((List af) × aa) := sq (fun st => ch v2 st.1 st.2.1 st.2.2) (v0,v1,v3)
theorem vb (v2 : Int) (v0 : aa) (v1 : (List af)) (v3 : Int) : f0 v2 v0 v1 v3 = ch v2 v0 v1 v3 >>= LS.go (fun st => f0 v2 st.1 st.2.1 st.2.2) := gy (fun st => ch v2 st.1 st.2.1 st.2.2) (v0,v1,v3)
def lq (v2 : Int) (v0 : aa) (v1 : (List af)) (v3 : Int) (r : (List af) × aa) : Prop := ∀ (τ : TH) (o0 : Nat) (o1 : Nat) (o2 : Nat) (n0 : Nat) (ty0 : TypeId) (hnn0 : n0 = v1.length) (hty0 : n0 = 0 ∨ ty0 = mw) (hl : τ.lock ≤ τ.next) (ha0 : τ.at o0 = some ⟨cz,[.ptr o1 0]⟩) (hi0 : o0 < τ.next) (ha1 : τ.at o1 = some ⟨ah,[.str v0.s_,.bool v0.bad_]⟩) (hi1 : o1 < τ.next) (hw1 : τ.lock ≤ o1) (ha2 : τ.at o2 = some ⟨kb,[.func dt [] [.ptr o0 0]]⟩) (hi2 : o2 < τ.next) (hn0_1 : o0 ≠ o1) (hn1_2 : o1 ≠ o2) (Q : TEx → av) (hQ0 : ∀ (fr : TF) (tk2 : TK) (τ2 : TH),∀ (u0 : TypeId),(r.1.length = 0 ∨ u0 = mw) → lkp fr 7 = .sla 0 (List.map af.tv r.1) → tk2.take 1 = [some (r.1.length,u0)] → τ2.cut τ.next = (τ.put o1 ⟨ah,[.str r.2.s_,.bool r.2.bad_]⟩) → Q (.exit 0) fr tk2 τ2) ,tW G (.loop [2,7,10,11] n6) Q [(2,.func ng [] [.ptr o0 0,.ptr o2 0]),(7,.sla 0 (List.map af.tv v1)),(10,.int .i64 v2),(11,.int .i64 v3)] [some (n0,ty0)] τ
theorem zc8u (v2 : Int) (v0 : aa) (v1 : (List af)) (v3 : Int) (r : (List af) × aa) (h : f0 v2 v0 v1 v3 = some r) : lq v2 v0 v1 v3 r := by
 refine fg (f := fun st => ch v2 st.1 st.2.1 st.2.2) (P := fun st r => ∀ (v0 : aa) (v1 : (List af)) (v3 : Int),(v0,v1,v3) = st → lq v2 v0 v1 v3 r) ?_ h v0 v1 v3 rfl
 clear h r v3 v1 v0
 intro st o h r ih v0 v1 v3 hst τ o0 o1 o2  n0 ty0 hnn0 hty0 hl ha0 hi0 ha1 hi1 hw1 ha2 hi2 hn0_1 hn1_2 Q hQ0
 subst hst
 have h : ch v2 v0 v1 v3 = some o := h
 unfold ch at h
 subst hnn0
 refine pj fun LQ hn hr he => ?_
 by_cases c1 : v3 < v2
 · rw [if_pos c1] at h
   obtain ⟨y2,hy2,h⟩ := ob h
   have k3 := fun (d : Option Nat) (K : av) (fr : TF) (tk : TK) (τ' : TH) (o'0 : Nat) (o'2 : Nat) => zc5v v0 _ hy2 d K fr tk τ' o'0 o1 o'2
   try simp only [CL,MC,reduceToNat] at k3
   obtain ⟨c4,h⟩ := ifS h
   have f5 : 1 ≤ maxLen := by unfold maxLen; omega
   have f6 : v1.length + 1 ≤ maxLen := by unfold maxLen; omega
   have f7 : ((List.map af.tv v1).all fun e => e.cells.length == 5) = true := zbl7 (fun _ => rfl) _
   have f8 : List.map af.tv v1 ++ List.map af.tv [y2.1] = List.map af.tv (v1 ++ [y2.1]) := zbt4 _ _
   try simp only [CL,List.map_cons,List.map_nil] at f8
   injection h with h; subst h
   have ih := ih y2.2 (v1 ++ [y2.1]) (IntKind.i64.wrap (v3 + (1 : Int))) rfl
   unfold lq at ih
   simp -implicitDefEqProofs only [n6,qh,TT,Ic.t,ci,reduceEqDiff,reduceIte,reduceAdd,reduceMul,reduceLT,reduceLeDiff,reduceSub,reduceCtorEq,reduceEq,reduceNe,reduceToNat,Int.reduceLT,reduceLE,reduceNeg,hl,ha0,hi0,ha1,hi1,hw1,ha2,hi2,nq hn0_1,nq hn1_2,hty0,c1,k3,c4,f5,f6,f7,f8,CL,LTN]
   rw [hn]
   simp -implicitDefEqProofs only [TT,Ic.t,ci,reduceEqDiff,reduceIte,reduceAdd,reduceMul,reduceLT,reduceLeDiff,reduceSub,reduceCtorEq,reduceEq,reduceNe,reduceToNat,Int.reduceLT,reduceLE,reduceNeg,hl,ha0,hi0,ha1,hi1,hw1,ha2,hi2,nq hn0_1,nq hn1_2,hty0,c1,k3,c4,f5,f6,f7,f8,CL,LTN]
   exact ih  (τ.put o1 ⟨ah,[.str y2.2.s_,.bool y2.2.bad_]⟩) o0 o1 o2  (v1.length + 1) mw (by first | rfl | simp [ay]) (by first | exact hty0 | exact Or.inr rfl | assumption | simp) (by first | assumption | (simp only [ag,ak]; assumption)) (by simp -implicitDefEqProofs only [TT,Ic.t,ci,reduceEqDiff,reduceIte,reduceAdd,reduceMul,reduceLT,reduceLeDiff,reduceSub,reduceCtorEq,reduceEq,reduceNe,reduceToNat,Int.reduceLT,reduceLE,reduceNeg,hl,ha0,hi0,ha1,hi1,hw1,ha2,hi2,nq hn0_1,nq hn1_2,hty0,c1,k3,c4,f5,f6,f7,f8,CL,LTN]) (by first | assumption | (simp only [ag,ak]; assumption)) (by simp -implicitDefEqProofs only [TT,Ic.t,ci,reduceEqDiff,reduceIte,reduceAdd,reduceMul,reduceLT,reduceLeDiff,reduceSub,reduceCtorEq,reduceEq,reduceNe,reduceToNat,Int.reduceLT,reduceLE,reduceNeg,hl,ha0,hi0,ha1,hi1,hw1,ha2,hi2,nq hn0_1,nq hn1_2,hty0,c1,k3,c4,f5,f6,f7,f8,CL,LTN]) (by first | assumption | (simp only [ag,ak]; assumption)) (by first | assumption | (simp only [ag,ak]; assumption)) (by simp -implicitDefEqProofs only [TT,Ic.t,ci,reduceEqDiff,reduceIte,reduceAdd,reduceMul,reduceLT,reduceLeDiff,reduceSub,reduceCtorEq,reduceEq,reduceNe,reduceToNat,Int.reduceLT,reduceLE,reduceNeg,hl,ha0,hi0,ha1,hi1,hw1,ha2,hi2,nq hn0_1,nq hn1_2,hty0,c1,k3,c4,f5,f6,f7,f8,CL,LTN]) (by first | assumption | (simp only [ag,ak]; assumption)) hn0_1 hn1_2 Q (fun fr tk2 τ2 u0 u0' g0 ht hτ => hQ0 fr tk2 τ2 u0 u0' g0 ht (by first | exact hτ | simpa only [ag,zbjv,hl,ha0,hi0,ha1,hi1,hw1,ha2,hi2,nq hn0_1,nq hn1_2,hty0] using hτ))
 rw [if_neg c1] at h
 injection h with h; subst h
 obtain rfl : _ = r := ih
 simp -implicitDefEqProofs only [n6,qh,TT,Ic.t,ci,reduceEqDiff,reduceIte,reduceAdd,reduceMul,reduceLT,reduceLeDiff,reduceSub,reduceCtorEq,reduceEq,reduceNe,reduceToNat,Int.reduceLT,reduceLE,reduceNeg,hl,ha0,hi0,ha1,hi1,hw1,ha2,hi2,nq hn0_1,nq hn1_2,hty0,he,hr,c1,CL,LTN]
 exact hQ0  _ _ _ ty0 (by first | exact hty0 | exact Or.inr rfl | assumption | simp) (by first | rfl | (simp -implicitDefEqProofs only [TT,Ic.t,ci,reduceEqDiff,reduceIte,reduceAdd,reduceMul,reduceLT,reduceLeDiff,reduceSub,reduceCtorEq,reduceEq,reduceNe,reduceToNat,Int.reduceLT,reduceLE,reduceNeg,hl,ha0,hi0,ha1,hi1,hw1,ha2,hi2,nq hn0_1,nq hn1_2,hty0,c1,CL,LTN])) (by first | rfl | (simp -implicitDefEqProofs only [TT,Ic.t,ci,reduceEqDiff,reduceIte,reduceAdd,reduceMul,reduceLT,reduceLeDiff,reduceSub,reduceCtorEq,reduceEq,reduceNe,reduceToNat,Int.reduceLT,reduceLE,reduceNeg,hl,ha0,hi0,ha1,hi1,hw1,ha2,hi2,nq hn0_1,nq hn1_2,hty0,c1,CL,LTN])) (by first | exact kf (Nat.le_refl _) | (simp -implicitDefEqProofs only [TT,Ic.t,ci,reduceEqDiff,reduceIte,reduceAdd,reduceMul,reduceLT,reduceLeDiff,reduceSub,reduceCtorEq,reduceEq,reduceNe,reduceToNat,Int.reduceLT,reduceLE,reduceNeg,hl,ha0,hi0,ha1,hi1,hw1,ha2,hi2,nq hn0_1,nq hn1_2,hty0,mi ha1,c1,CL,LTN]))
def kd (p1 : aa) (p2 : Int) : Option ((List af) × aa) :=
 d5 p1 p2 >>= fun y1 =>
 f0 y1.1 y1.2 [] (0 : Int) >>= fun y3 =>
 some (y3.1,y3.2)
theorem zc8g (p1 : aa) (p2 : Int) (r : (List af) × aa) (h : kd p1 p2 = some r) (τ : TH) (o0 : Nat) (o1 : Nat) (o2 : Nat) (hl : τ.lock ≤ τ.next) (ha0 : τ.at o0 = some ⟨ah,[.str p1.s_,.bool p1.bad_]⟩) (hi0 : o0 < τ.next) (hw0 : τ.lock ≤ o0) (ha1 : τ.at o1 = some ⟨cz,[.ptr o0 0]⟩) (hi1 : o1 < τ.next) (ha2 : τ.at o2 = some ⟨kb,[.func dt [] [.ptr o1 0]]⟩) (hi2 : o2 < τ.next) (hn0_1 : o0 ≠ o1) (hn0_2 : o0 ≠ o2) : Ru G ke [.ptr o0 0,.int .i64 p2,.func ng [] [.ptr o1 0,.ptr o2 0]] τ (.sl (List.map af.tv r.1)) (τ.put o0 ⟨ah,[.str r.2.s_,.bool r.2.bad_]⟩) := by
 refine jv fun K hK => ?_
 rw [bx zc7x (Nat.le_of_ble_eq_true rfl)]
 unfold kd at h
 obtain ⟨y1,hy1,h⟩ := ob h
 have k2 := kn p1 p2 _ hy1
 try simp only [CL,MC,reduceToNat] at k2
 obtain ⟨y3,hy3,h⟩ := ob h
 simp -implicitDefEqProofs only [qh,TT,Ic.t,ci,reduceEqDiff,reduceIte,reduceAdd,reduceLT,reduceCtorEq,reduceToNat,hl,ha0,hi0,hw0,ha1,hi1,ha2,hi2,nq hn0_1,nq hn0_2,k2,CL,LTN]
 have Sy3 := zc8u y1.1 y1.2 [] (0 : Int) y3 hy3
 unfold lq at Sy3
 refine Sy3 _ o1 o0 o2 0 0 (by first | rfl | simp [ay]) (by first | exact Or.inl rfl | exact Or.inr rfl | assumption | simp) (by first | assumption | omega | (simp only [ag,ap,ak,bb]; omega)) (by simp -implicitDefEqProofs only [TT,Ic.t,ci,reduceEqDiff,reduceIte,reduceAdd,reduceLT,reduceCtorEq,reduceToNat,hl,ha0,hi0,hw0,ha1,hi1,ha2,hi2,nq hn0_1,nq hn0_2,k2,CL,LTN]) (by first | assumption | omega | (simp only [ag,ap,ak,bb]; omega)) (by simp -implicitDefEqProofs only [TT,Ic.t,ci,reduceEqDiff,reduceIte,reduceAdd,reduceLT,reduceCtorEq,reduceToNat,hl,ha0,hi0,hw0,ha1,hi1,ha2,hi2,nq hn0_1,nq hn0_2,k2,CL,LTN]) (by first | assumption | omega | (simp only [ag,ap,ak,bb]; omega)) (by first | assumption | omega | (simp only [ag,ap,ak,bb]; omega)) (by simp -implicitDefEqProofs only [TT,Ic.t,ci,reduceEqDiff,reduceIte,reduceAdd,reduceLT,reduceCtorEq,reduceToNat,hl,ha0,hi0,hw0,ha1,hi1,ha2,hi2,nq hn0_1,nq hn0_2,k2,CL,LTN]) (by first | assumption | omega | (simp only [ag,ap,ak,bb]; omega)) (by first | assumption | omega | (simp only [ag,ap]; omega)) (by first | assumption | omega | (simp only [ag,ap]; omega)) _ ?_
 intro frq4 tkq4 τq4 u0q4 uh0q4 g7q4 htq4 hcq4
 have hcq4 := gc (n := τ.next) hcq4 (by first | omega | (simp only [ag,ap]; omega))
 try simp only [List.take_succ_cons,List.take_zero,List.take_nil,CL] at htq4
 try simp -implicitDefEqProofs only [TT,Ic.t,ci,reduceEqDiff,reduceIte,reduceAdd,reduceLT,reduceCtorEq,reduceToNat,hl,ha0,hi0,hw0,ha1,hi1,ha2,hi2,nq hn0_1,nq hn0_2,k2,CL,LTN] at hcq4
 injection h with h; subst h
 simp -implicitDefEqProofs only [qh,TT,Ic.t,ci,reduceEqDiff,reduceIte,reduceAdd,reduceLT,reduceCtorEq,reduceToNat,hl,ha0,hi0,hw0,ha1,hi1,ha2,hi2,nq hn0_1,nq hn0_2,k2,uh0q4,g7q4,htq4,hcq4,CL,LTN]
 exact hK
theorem zc8f (p1 : aa) (p2 : Int) (r : (List af) × aa) (h : kd p1 p2 = some r) (d : Option Nat) (K : av) (fr : TF) (tk : TK) (τ : TH) (o0 : Nat) (o1 : Nat) (o2 : Nat) (hl : τ.lock ≤ τ.next) (ha0 : τ.at o0 = some ⟨ah,[.str p1.s_,.bool p1.bad_]⟩) (hi0 : o0 < τ.next) (hw0 : τ.lock ≤ o0) (ha1 : τ.at o1 = some ⟨cz,[.ptr o0 0]⟩) (hi1 : o1 < τ.next) (ha2 : τ.at o2 = some ⟨kb,[.func dt [] [.ptr o1 0]]⟩) (hi2 : o2 < τ.next) (hn0_1 : o0 ≠ o1) (hn0_2 : o0 ≠ o2) : fp G false ke [.ptr o0 0,.int .i64 p2,.func ng [] [.ptr o1 0,.ptr o2 0]] d K fr tk τ = K (gg fr d (.sl (List.map af.tv r.1))) tk (τ.put o0 ⟨ah,[.str r.2.s_,.bool r.2.bad_]⟩) :=
 n7 (zc8g p1 p2 r h τ o0 o1 o2 hl ha0 hi0 hw0 ha1 hi1 ha2 hi2 hn0_1 hn0_2) (by simp -implicitDefEqProofs only [TT,Ic.t,ci,reduceEqDiff,reduceIte,reduceAdd,reduceLT,reduceCtorEq,reduceToNat,hl,ha0,hi0,hw0,ha1,hi1,ha2,hi2,nq hn0_1,nq hn0_2,CL,LTN])
def dy (v2 : Int) (v0 : aa) (v1 : (List Int)) (v3 : Int) : Option (LS (aa × (List Int) × Int) ((List Int) × aa)) :=
 if v3 < v2 then
  df v0 >>= fun y2 =>
  if (v1.length + 1) * 8 ≤ 140737488355328 then
   some (.nx (y2.2,(v1 ++ [y2.1]),(IntKind.i64.wrap (v3 + (1 : Int)))))
  else
   none
 else
 some (.dn (v1,v0))
def iy (v2 : Int) (v0 : aa) (v1 : (List Int)) (v3 : Int) : Option ((List Int) × aa) := sq (fun st => dy v2 st.1 st.2.1 st.2.2) (v0,v1,v3)
theorem zcxk (v2 : Int) (v0 : aa) (v1 : (List Int)) (v3 : Int) : iy v2 v0 v1 v3 = dy v2 v0 v1 v3 >>= LS.go (fun st => iy v2 st.1 st.2.1 st.2.2) := gy (fun st => dy v2 st.1 st.2.1 st.2.2) (v0,v1,v3)
def o9 (v2 : Int) (v0 : aa) (v1 : (List Int)) (v3 : Int) (r : (List Int) × aa) : Prop := ∀ (τ : TH) (o0 : Nat) (n0 : Nat) (ty0 : TypeId) (hnn0 : n0 = v1.length) (hty0 : n0 = 0 ∨ ty0 = u7) (hl : τ.lock ≤ τ.next) (ha0 : τ.at o0 = some ⟨ah,[.str v0.s_,.bool v0.bad_]⟩) (hi0 : o0 < τ.next) (hw0 : τ.lock ≤ o0) (Q : TEx → av) (hQ0 : ∀ (fr : TF) (tk2 : TK) (τ2 : TH),∀ (u0 : TypeId),(r.1.length = 0 ∨ u0 = u7) → lkp fr 7 = .sla 0 (List.map (TV.int .i64) r.1) → tk2.take 1 = [some (r.1.length,u0)] → τ2.cut τ.next = (τ.put o0 ⟨ah,[.str r.2.s_,.bool r.2.bad_]⟩) → Q (.exit 0) fr tk2 τ2) ,tW G (.loop [2,7,10,11] tp) Q [(2,.func bp [.ptr o0 0] []),(7,.sla 0 (List.map (TV.int .i64) v1)),(10,.int .i64 v2),(11,.int .i64 v3)] [some (n0,ty0)] τ
theorem zc76 (v2 : Int) (v0 : aa) (v1 : (List Int)) (v3 : Int) (r : (List Int) × aa) (h : iy v2 v0 v1 v3 = some r) : o9 v2 v0 v1 v3 r := by
 refine fg (f := fun st => dy v2 st.1 st.2.1 st.2.2) (P := fun st r => ∀ (v0 : aa) (v1 : (List Int)) (v3 : Int),(v0,v1,v3) = st → o9 v2 v0 v1 v3 r) ?_ h v0 v1 v3 rfl
 clear h r v3 v1 v0
 intro st o h r ih v0 v1 v3 hst τ o0  n0 ty0 hnn0 hty0 hl ha0 hi0 hw0 Q hQ0
 subst hst
 have h : dy v2 v0 v1 v3 = some o := h
 unfold dy at h
 subst hnn0
 refine pj fun LQ hn hr he => ?_
 by_cases c1 : v3 < v2
 · rw [if_pos c1] at h
   obtain ⟨y2,hy2,h⟩ := ob h
   have k3 := gj v0 _ hy2
   try simp only [CL,MC,reduceToNat] at k3
   obtain ⟨c4,h⟩ := ifS h
   have f5 : 1 ≤ maxLen := by unfold maxLen; omega
   have f6 : v1.length + 1 ≤ maxLen := by unfold maxLen; omega
   have f7 : ((List.map (TV.int .i64) v1).all fun e => e.cells.length == 1) = true := zbl7 (fun _ => rfl) _
   have f8 : List.map (TV.int .i64) v1 ++ List.map (TV.int .i64) [y2.1] = List.map (TV.int .i64) (v1 ++ [y2.1]) := zbt4 _ _
   try simp only [CL,List.map_cons,List.map_nil] at f8
   injection h with h; subst h
   have ih := ih y2.2 (v1 ++ [y2.1]) (IntKind.i64.wrap (v3 + (1 : Int))) rfl
   unfold o9 at ih
   simp -implicitDefEqProofs only [tp,xk,TT,Ic.t,ci,reduceEqDiff,reduceIte,reduceAdd,reduceMul,reduceLT,reduceLeDiff,reduceSub,reduceCtorEq,reduceEq,reduceNe,reduceToNat,Int.reduceLT,reduceLE,reduceNeg,hl,ha0,hi0,hw0,hty0,c1,k3,c4,f5,f6,f7,f8,CL,LTN]
   rw [hn]
   simp -implicitDefEqProofs only [TT,Ic.t,ci,reduceEqDiff,reduceIte,reduceAdd,reduceMul,reduceLT,reduceLeDiff,reduceSub,reduceCtorEq,reduceEq,reduceNe,reduceToNat,Int.reduceLT,reduceLE,reduceNeg,hl,ha0,hi0,hw0,hty0,c1,k3,c4,f5,f6,f7,f8,CL,LTN]
   exact ih  (τ.put o0 ⟨ah,[.str y2.2.s_,.bool y2.2.bad_]⟩) o0  (v1.length + 1) u7 (by first | rfl | simp [ay]) (by first | exact hty0 | exact Or.inr rfl | assumption | simp) (by first | assumption | (simp only [ag,ak]; assumption)) (by simp -implicitDefEqProofs only [TT,Ic.t,ci,reduceEqDiff,reduceIte,reduceAdd,reduceMul,reduceLT,reduceLeDiff,reduceSub,reduceCtorEq,reduceEq,reduceNe,reduceToNat,Int.reduceLT,reduceLE,reduceNeg,hl,ha0,hi0,hw0,hty0,c1,k3,c4,f5,f6,f7,f8,CL,LTN]) (by first | assumption | (simp only [ag,ak]; assumption)) (by first | assumption | (simp only [ag,ak]; assumption)) Q (fun fr tk2 τ2 u0 u0' g0 ht hτ => hQ0 fr tk2 τ2 u0 u0' g0 ht (by first | exact hτ | simpa only [ag,zbjv,hl,ha0,hi0,hw0,hty0] using hτ))
 rw [if_neg c1] at h
 injection h with h; subst h
 obtain rfl : _ = r := ih
 simp -implicitDefEqProofs only [tp,xk,TT,Ic.t,ci,reduceEqDiff,reduceIte,reduceAdd,reduceMul,reduceLT,reduceLeDiff,reduceSub,reduceCtorEq,reduceEq,reduceNe,reduceToNat,Int.reduceLT,reduceLE,reduceNeg,hl,ha0,hi0,hw0,hty0,he,hr,c1,CL,LTN]
 exact hQ0  _ _ _ ty0 (by first | exact hty0 | exact Or.inr rfl | assumption | simp) (by first | rfl | (simp -implicitDefEqProofs only [TT,Ic.t,ci,reduceEqDiff,reduceIte,reduceAdd,reduceMul,reduceLT,reduceLeDiff,reduceSub,reduceCtorEq,reduceEq,reduceNe,reduceToNat,Int.reduceLT,reduceLE,reduceNeg,hl,ha0,hi0,hw0,hty0,c1,CL,LTN])) (by first | rfl | (simp -implicitDefEqProofs only [TT,Ic.t,ci,reduceEqDiff,reduceIte,reduceAdd,reduceMul,reduceLT,reduceLeDiff,reduceSub,reduceCtorEq,reduceEq,reduceNe,reduceToNat,Int.reduceLT,reduceLE,reduceNeg,hl,ha0,hi0,hw0,hty0,c1,CL,LTN])) (by first | exact kf (Nat.le_refl _) | (simp -implicitDefEqProofs only [TT,Ic.t,ci,reduceEqDiff,reduceIte,reduceAdd,reduceMul,reduceLT,reduceLeDiff,reduceSub,reduceCtorEq,reduceEq,reduceNe,reduceToNat,Int.reduceLT,reduceLE,reduceNeg,hl,ha0,hi0,hw0,hty0,mi ha0,c1,CL,LTN]))
def o6 (p1 : aa) (p2 : Int) : Option ((List Int) × aa) :=
 d5 p1 p2 >>= fun y1 =>
 iy y1.1 y1.2 [] (0 : Int) >>= fun y3 =>
 some (y3.1,y3.2)
theorem zc7m (p1 : aa) (p2 : Int) (r : (List Int) × aa) (h : o6 p1 p2 = some r) (τ : TH) (o0 : Nat) (hl : τ.lock ≤ τ.next) (ha0 : τ.at o0 = some ⟨ah,[.str p1.s_,.bool p1.bad_]⟩) (hi0 : o0 < τ.next) (hw0 : τ.lock ≤ o0) : Ru G o7 [.ptr o0 0,.int .i64 p2,.func bp [.ptr o0 0] []] τ (.sl (List.map (TV.int .i64) r.1)) (τ.put o0 ⟨ah,[.str r.2.s_,.bool r.2.bad_]⟩) := by
 refine jv fun K hK => ?_
 rw [bx zc59 (Nat.le_of_ble_eq_true rfl)]
 unfold o6 at h
 obtain ⟨y1,hy1,h⟩ := ob h
 have k2 := kn p1 p2 _ hy1
 try simp only [CL,MC,reduceToNat] at k2
 obtain ⟨y3,hy3,h⟩ := ob h
 simp -implicitDefEqProofs only [xk,TT,Ic.t,ci,reduceEqDiff,reduceIte,reduceAdd,reduceLT,reduceCtorEq,reduceToNat,hl,ha0,hi0,hw0,k2,CL,LTN]
 have Sy3 := zc76 y1.1 y1.2 [] (0 : Int) y3 hy3
 unfold o9 at Sy3
 refine Sy3 _ o0 0 0 (by first | rfl | simp [ay]) (by first | exact Or.inl rfl | exact Or.inr rfl | assumption | simp) (by first | assumption | omega | (simp only [ag,ap,ak,bb]; omega)) (by simp -implicitDefEqProofs only [TT,Ic.t,ci,reduceEqDiff,reduceIte,reduceAdd,reduceLT,reduceCtorEq,reduceToNat,hl,ha0,hi0,hw0,k2,CL,LTN]) (by first | assumption | omega | (simp only [ag,ap,ak,bb]; omega)) (by first | assumption | omega | (simp only [ag,ap,ak,bb]; omega)) _ ?_
 intro frq4 tkq4 τq4 u0q4 uh0q4 g7q4 htq4 hcq4
 have hcq4 := gc (n := τ.next) hcq4 (by first | omega | (simp only [ag,ap]; omega))
 try simp only [List.take_succ_cons,List.take_zero,List.take_nil,CL] at htq4
 try simp -implicitDefEqProofs only [TT,Ic.t,ci,reduceEqDiff,reduceIte,reduceAdd,reduceLT,reduceCtorEq,reduceToNat,hl,ha0,hi0,hw0,k2,CL,LTN] at hcq4
 injection h with h; subst h
 simp -implicitDefEqProofs only [xk,TT,Ic.t,ci,reduceEqDiff,reduceIte,reduceAdd,reduceLT,reduceCtorEq,reduceToNat,hl,ha0,hi0,hw0,k2,uh0q4,g7q4,htq4,hcq4,CL,LTN]
 exact hK
theorem zc67 (p1 : aa) (p2 : Int) (r : (List Int) × aa) (h : o6 p1 p2 = some r) (d : Option Nat) (K : av) (fr : TF) (tk : TK) (τ : TH) (o0 : Nat) (hl : τ.lock ≤ τ.next) (ha0 : τ.at o0 = some ⟨ah,[.str p1.s_,.bool p1.bad_]⟩) (hi0 : o0 < τ.next) (hw0 : τ.lock ≤ o0) : fp G false o7 [.ptr o0 0,.int .i64 p2,.func bp [.ptr o0 0] []] d K fr tk τ = K (gg fr d (.sl (List.map (TV.int .i64) r.1))) tk (τ.put o0 ⟨ah,[.str r.2.s_,.bool r.2.bad_]⟩) :=
 n7 (zc7m p1 p2 r h τ o0 hl ha0 hi0 hw0) (by simp -implicitDefEqProofs only [TT,Ic.t,ci,reduceEqDiff,reduceIte,reduceAdd,reduceLT,reduceCtorEq,reduceToNat,hl,ha0,hi0,hw0,CL,LTN])
def tq (p1 : aa) : Option Bool :=
 some p1.bad_
theorem zcu6 (p1 : aa) (r : Bool) (h : tq p1 = some r) (τ : TH) (o0 : Nat) (hl : τ.lock ≤ τ.next) (ha0 : τ.at o0 = some ⟨ah,[.str p1.s_,.bool p1.bad_]⟩) (hi0 : o0 < τ.next) : Ru G ml [.ptr o0 0] τ (.bool r) τ := by
 refine jv fun K hK => ?_
 rw [bx zc61 (Nat.le_of_ble_eq_true rfl)]
 unfold tq at h
 injection h with h; subst h
 simp -implicitDefEqProofs only [zc6t,TT,Ic.t,ci,reduceEqDiff,reduceIte,reduceAdd,reduceLT,reduceCtorEq,reduceToNat,hl,ha0,hi0,CL,LTN]
 exact hK
theorem zc7u (p1 : aa) (r : Bool) (h : tq p1 = some r) (lk : Bool) (d : Option Nat) (K : av) (fr : TF) (tk : TK) (τ : TH) (o0 : Nat) (hl : τ.lock ≤ τ.next) (ha0 : τ.at o0 = some ⟨ah,[.str p1.s_,.bool p1.bad_]⟩) (hi0 : o0 < τ.next) : fp G lk ml [.ptr o0 0] d K fr tk τ = K (gg fr d (.bool r)) tk τ :=
 bn (zcu6 p1 r h τ o0 hl ha0 hi0) (zcu6 p1 r h (τ.locked τ.next) o0 (Nat.le_refl _) (by rw [zbtx]; exact ha0) hi0) (by simp -implicitDefEqProofs only [TT,Ic.t,ci,reduceEqDiff,reduceIte,reduceAdd,reduceLT,reduceCtorEq,reduceToNat,hl,ha0,hi0,CL,LTN])
def rz (p1 : aa) : Option Int :=
 some ((p1.s_.size : Nat) : Int)
theorem zcvk (p1 : aa) (r : Int) (h : rz p1 = some r) (τ : TH) (o0 : Nat) (hl : τ.lock ≤ τ.next) (ha0 : τ.at o0 = some ⟨ah,[.str p1.s_,.bool p1.bad_]⟩) (hi0 : o0 < τ.next) : Ru G lm [.ptr o0 0] τ (.int .i64 r) τ := by
 refine jv fun K hK => ?_
 rw [bx zc7i (Nat.le_of_ble_eq_true rfl)]
 unfold rz at h
 injection h with h; subst h
 simp -implicitDefEqProofs only [zc7n,TT,Ic.t,ci,reduceEqDiff,reduceIte,reduceAdd,reduceLT,reduceCtorEq,reduceToNat,hl,ha0,hi0,CL,LTN]
 exact hK
theorem zc7z (p1 : aa) (r : Int) (h : rz p1 = some r) (lk : Bool) (d : Option Nat) (K : av) (fr : TF) (tk : TK) (τ : TH) (o0 : Nat) (hl : τ.lock ≤ τ.next) (ha0 : τ.at o0 = some ⟨ah,[.str p1.s_,.bool p1.bad_]⟩) (hi0 : o0 < τ.next) : fp G lk lm [.ptr o0 0] d K fr tk τ = K (gg fr d (.int .i64 r)) tk τ :=
 bn (zcvk p1 r h τ o0 hl ha0 hi0) (zcvk p1 r h (τ.locked τ.next) o0 (Nat.le_refl _) (by rw [zbtx]; exact ha0) hi0) (by simp -implicitDefEqProofs only [TT,Ic.t,ci,reduceEqDiff,reduceIte,reduceAdd,reduceLT,reduceCtorEq,reduceToNat,hl,ha0,hi0,CL,LTN])
def t9 (p1 : ByteArray) : Option (aq × Int) :=
 zb4x p1 >>= fun y1 =>
 m5 y1 >>= fun y3 =>
 ig y3.2 (6 : Int) >>= fun y5 =>
 kd y5.2 (12 : Int) >>= fun y7 =>
 o6 y7.2 (3 : Int) >>= fun y9 =>
 ix y9.2 (3 : Int) >>= fun y11 =>
 df y11.2 >>= fun y13 =>
 df y13.2 >>= fun y15 =>
 tq y15.2 >>= fun y17 =>
 if y17 = true then
  some ((⟨(⟨#[]⟩ : ByteArray),[],[],[],[],(0 : Int),(0 : Int)⟩ : aq),(2 : Int))
 else
 rz y15.2 >>= fun y20 =>
 if (0 : Int) < y20 then
  some ((⟨(⟨#[]⟩ : ByteArray),[],[],[],[],(0 : Int),(0 : Int)⟩ : aq),(2 : Int))
 else
 l5 (⟨y3.1,y5.1,y7.1,y9.1,y11.1,y13.1,y15.1⟩ : aq) >>= fun y23 =>
 if y23 = true then
  some ((⟨y3.1,y5.1,y7.1,y9.1,y11.1,y13.1,y15.1⟩ : aq),(0 : Int))
 else
 some ((⟨(⟨#[]⟩ : ByteArray),[],[],[],[],(0 : Int),(0 : Int)⟩ : aq),(2 : Int))
theorem zcqb (p1 : ByteArray) (r : aq × Int) (h : t9 p1 = some r) (τ : TH) (hl : τ.lock ≤ τ.next) : Ru G uo [.str p1] τ (.tup [.agg [.str r.1.ID,.sl (List.map ac.tv r.1.Parties),.sl (List.map af.tv r.1.Arcs),.sl (List.map (TV.int .i64) r.1.Leaders),.sl (List.map TV.str r.1.Locks),.int .i64 r.1.Start,.int .i64 r.1.Delta],.int .i64 r.2]) τ := by
 refine jv fun K hK => ?_
 rw [bx zc4s (Nat.le_of_ble_eq_true rfl)]
 unfold t9 at h
 obtain ⟨y1,hy1,h⟩ := ob h
 have k2 := zdam p1 _ hy1
 try simp only [CL,MC,reduceToNat] at k2
 obtain ⟨y3,hy3,h⟩ := ob h
 have k4 := fun (d : Option Nat) (K : av) (fr : TF) (tk : TK) (τ' : TH) (o'0 : Nat) => zb9s y1 _ hy3 d K fr tk τ' o'0 (τ.next + 1)
 try simp only [CL,MC,reduceToNat] at k4
 obtain ⟨y5,hy5,h⟩ := ob h
 have k6 := zc8q y3.2 (6 : Int) _ hy5
 try simp only [CL,MC,reduceToNat] at k6
 obtain ⟨y7,hy7,h⟩ := ob h
 have k8 := zc8f y5.2 (12 : Int) _ hy7
 try simp only [CL,MC,reduceToNat] at k8
 obtain ⟨y9,hy9,h⟩ := ob h
 have k10 := zc67 y7.2 (3 : Int) _ hy9
 try simp only [CL,MC,reduceToNat] at k10
 obtain ⟨y11,hy11,h⟩ := ob h
 have k12 := zcwe y9.2 (3 : Int) _ hy11
 try simp only [CL,MC,reduceToNat] at k12
 obtain ⟨y13,hy13,h⟩ := ob h
 have k14 := gj y11.2 _ hy13
 try simp only [CL,MC,reduceToNat] at k14
 obtain ⟨y15,hy15,h⟩ := ob h
 have k16 := gj y13.2 _ hy15
 try simp only [CL,MC,reduceToNat] at k16
 obtain ⟨y17,hy17,h⟩ := ob h
 have k18 := zc7u y15.2 _ hy17
 try simp only [CL,MC,reduceToNat] at k18
 by_cases c19 : y17 = true
 · rw [if_pos c19] at h
   injection h with h; subst h
   simp -implicitDefEqProofs only [lkp.eq_1,oh,og,od,oa,List.isEmpty_cons,iw,fy,tSg,tT,tS,tD,pnT,j6,kh,pnK,n9,kj,List.filter_cons,List.filter_nil,List.filterMap_cons,List.filterMap_nil,cy,gb,qc,fh,Ins.dsts,Ins.looks,I.ops,we,u5,List.all_cons,List.all_nil,List.any_cons,List.any_nil,List.contains_cons,List.contains_nil,List.append_nil,List.nil_append,List.cons_append,Option.toList_some,Option.toList_none,Option.isSome_some,Option.isSome_none,Bool.and_true,Bool.true_and,Bool.and_false,Bool.false_and,Bool.or_false,Bool.false_or,Bool.or_true,Bool.true_or,Bool.not_false,Bool.not_true,and_true,true_and,and_false,false_and,Nat.reduceBEq,bne_iff_ne,zb82,TT,Ic.t,ci,reduceEqDiff,reduceIte,reduceAdd,reduceMul,reduceLT,reduceLeDiff,reduceSub,reduceCtorEq,reduceEq,reduceNe,reduceToNat,Int.reduceLT,reduceLE,reduceNeg,hl,k2,k4,k6,k8,k10,k12,k14,k16,k18,c19,CL,LTN]
   first | exact hK | (simp only [hl,k2,k4,k6,k8,k10,k12,k14,k16,k18,c19,CL] at hK; exact hK)
 rw [if_neg c19] at h
 have c19 := Bool.eq_false_iff.2 c19
 obtain ⟨y20,hy20,h⟩ := ob h
 have k21 := zc7z y15.2 _ hy20
 try simp only [CL,MC,reduceToNat] at k21
 by_cases c22 : (0 : Int) < y20
 · rw [if_pos c22] at h
   injection h with h; subst h
   simp -implicitDefEqProofs only [lkp.eq_1,oh,og,od,oa,List.isEmpty_cons,iw,fy,tSg,tT,tS,tD,pnT,j6,kh,pnK,n9,kj,List.filter_cons,List.filter_nil,List.filterMap_cons,List.filterMap_nil,cy,gb,qc,fh,Ins.dsts,Ins.looks,I.ops,we,u5,List.all_cons,List.all_nil,List.any_cons,List.any_nil,List.contains_cons,List.contains_nil,List.append_nil,List.nil_append,List.cons_append,Option.toList_some,Option.toList_none,Option.isSome_some,Option.isSome_none,Bool.and_true,Bool.true_and,Bool.and_false,Bool.false_and,Bool.or_false,Bool.false_or,Bool.or_true,Bool.true_or,Bool.not_false,Bool.not_true,and_true,true_and,and_false,false_and,Nat.reduceBEq,bne_iff_ne,zb82,TT,Ic.t,ci,reduceEqDiff,reduceIte,reduceAdd,reduceMul,reduceLT,reduceLeDiff,reduceSub,reduceCtorEq,reduceEq,reduceNe,reduceToNat,Int.reduceLT,reduceLE,reduceNeg,hl,k2,k4,k6,k8,k10,k12,k14,k16,k18,c19,k21,c22,CL,LTN]
   first | exact hK | (simp only [hl,k2,k4,k6,k8,k10,k12,k14,k16,k18,c19,k21,c22,CL] at hK; exact hK)
 rw [if_neg c22] at h
 obtain ⟨y23,hy23,h⟩ := ob h
 have k24 := zb9p (⟨y3.1,y5.1,y7.1,y9.1,y11.1,y13.1,y15.1⟩ : aq) _ hy23
 try simp only [CL,MC,reduceToNat] at k24
 by_cases c25 : y23 = true
 · rw [if_pos c25] at h
   injection h with h; subst h
   simp -implicitDefEqProofs only [lkp.eq_1,oh,og,od,oa,List.isEmpty_cons,iw,fy,tSg,tT,tS,tD,pnT,j6,kh,pnK,n9,kj,List.filter_cons,List.filter_nil,List.filterMap_cons,List.filterMap_nil,cy,gb,qc,fh,Ins.dsts,Ins.looks,I.ops,we,u5,List.all_cons,List.all_nil,List.any_cons,List.any_nil,List.contains_cons,List.contains_nil,List.append_nil,List.nil_append,List.cons_append,Option.toList_some,Option.toList_none,Option.isSome_some,Option.isSome_none,Bool.and_true,Bool.true_and,Bool.and_false,Bool.false_and,Bool.or_false,Bool.false_or,Bool.or_true,Bool.true_or,Bool.not_false,Bool.not_true,and_true,true_and,and_false,false_and,Nat.reduceBEq,bne_iff_ne,zb82,TT,Ic.t,ci,reduceEqDiff,reduceIte,reduceAdd,reduceMul,reduceLT,reduceLeDiff,reduceSub,reduceCtorEq,reduceEq,reduceNe,reduceToNat,Int.reduceLT,reduceLE,reduceNeg,hl,k2,k4,k6,k8,k10,k12,k14,k16,k18,c19,k21,c22,k24,c25,CL,LTN]
   first | exact hK | (simp only [hl,k2,k4,k6,k8,k10,k12,k14,k16,k18,c19,k21,c22,k24,c25,CL] at hK; exact hK)
 rw [if_neg c25] at h
 have c25 := Bool.eq_false_iff.2 c25
 injection h with h; subst h
 simp -implicitDefEqProofs only [lkp.eq_1,oh,og,od,oa,List.isEmpty_cons,iw,fy,tSg,tT,tS,tD,pnT,j6,kh,pnK,n9,kj,List.filter_cons,List.filter_nil,List.filterMap_cons,List.filterMap_nil,cy,gb,qc,fh,Ins.dsts,Ins.looks,I.ops,we,u5,List.all_cons,List.all_nil,List.any_cons,List.any_nil,List.contains_cons,List.contains_nil,List.append_nil,List.nil_append,List.cons_append,Option.toList_some,Option.toList_none,Option.isSome_some,Option.isSome_none,Bool.and_true,Bool.true_and,Bool.and_false,Bool.false_and,Bool.or_false,Bool.false_or,Bool.or_true,Bool.true_or,Bool.not_false,Bool.not_true,and_true,true_and,and_false,false_and,Nat.reduceBEq,bne_iff_ne,zb82,TT,Ic.t,ci,reduceEqDiff,reduceIte,reduceAdd,reduceMul,reduceLT,reduceLeDiff,reduceSub,reduceCtorEq,reduceEq,reduceNe,reduceToNat,Int.reduceLT,reduceLE,reduceNeg,hl,k2,k4,k6,k8,k10,k12,k14,k16,k18,c19,k21,c22,k24,c25,CL,LTN]
 first | exact hK | (simp only [hl,k2,k4,k6,k8,k10,k12,k14,k16,k18,c19,k21,c22,k24,c25,CL] at hK; exact hK)
theorem zcdi (p1 : ByteArray) (r : aq × Int) (h : t9 p1 = some r) (lk : Bool) (d : Option Nat) (K : av) (fr : TF) (tk : TK) (τ : TH) (hl : τ.lock ≤ τ.next) : fp G lk uo [.str p1] d K fr tk τ = K (gg fr d (.tup [.agg [.str r.1.ID,.sl (List.map ac.tv r.1.Parties),.sl (List.map af.tv r.1.Arcs),.sl (List.map (TV.int .i64) r.1.Leaders),.sl (List.map TV.str r.1.Locks),.int .i64 r.1.Start,.int .i64 r.1.Delta],.int .i64 r.2])) tk τ :=
 bn (zcqb p1 r h τ  hl) (zcqb p1 r h (τ.locked τ.next)  (Nat.le_refl _) ) (by simp -implicitDefEqProofs only [TT,Ic.t,ci,reduceEqDiff,reduceIte,reduceAdd,reduceLT,reduceCtorEq,reduceToNat,hl,CL,LTN])
def bh (v0 : (List ByteArray)) (v1 : (List ByteArray)) (v2 : Int) (v3 : Int) : Option (LS (Int) (LX (Unit) (Bool))) :=
 if v3 < v2 then
  ixL v0 v3 >>= fun y2 =>
  ixL v1 v3 >>= fun y4 =>
  if y2 = y4 then
   some (.nx (IntKind.i64.wrap (v3 + (1 : Int))))
  else
  some (.dn (.rt false))
 else
 some (.dn (.ex ()))
def bf (v0 : (List ByteArray)) (v1 : (List ByteArray)) (v2 : Int) (v3 : Int) : Option (LX (Unit) (Bool)) := sq (fun st => bh v0 v1 v2 st) v3
theorem ju (v0 : (List ByteArray)) (v1 : (List ByteArray)) (v2 : Int) (v3 : Int) : bf v0 v1 v2 v3 = bh v0 v1 v2 v3 >>= LS.go (fun st => bf v0 v1 v2 st) := gy (fun st => bh v0 v1 v2 st) v3
def gr (v0 : (List ByteArray)) (v1 : (List ByteArray)) (v2 : Int) (v3 : Int) (r : LX (Unit) (Bool)) : Prop := ∀ (τ : TH) (hl : τ.lock ≤ τ.next) (Q : TEx → av) (hQ0 : ∀ v : Unit,r = (.ex v) → ∀ (fr : TF) (tk2 : TK) (τ2 : TH),tk2.take 0 = [] → τ2.cut τ.next = τ → Q (.exit 0) fr tk2 τ2) (hQ1 : ∀ v : Bool,r = (.rt v) → ∀ (tk2 : TK) (τ2 : TH),τ2.cut τ.next = τ → Q .ret [(4,.bool v)] tk2 τ2) ,tW G (.loop [0,1,12,13] fu) Q [(0,.sl (List.map TV.str v0)),(1,.sl (List.map TV.str v1)),(12,.int .i64 v2),(13,.int .i64 v3)] [] τ
theorem zc9f (v0 : (List ByteArray)) (v1 : (List ByteArray)) (v2 : Int) (v3 : Int) (r : LX (Unit) (Bool)) (h : bf v0 v1 v2 v3 = some r) : gr v0 v1 v2 v3 r := by
 refine fg (f := fun st => bh v0 v1 v2 st) (P := fun st r => ∀ (v3 : Int),v3 = st → gr v0 v1 v2 v3 r) ?_ h v3 rfl
 clear h r v3
 intro st o h r ih v3 hst τ  hl Q hQ0 hQ1
 subst hst
 have h : bh v0 v1 v2 v3 = some o := h
 unfold bh at h
 refine pj fun LQ hn hr he => ?_
 by_cases c1 : v3 < v2
 · rw [if_pos c1] at h
   obtain ⟨y2,hy2,h⟩ := ob h
   have f3 := de hy2
   have f3a := (f3.2.2 TV.str).1
   have f3b := (f3.2.2 TV.str).2
   try simp only [CL,MC,reduceToNat] at f3 f3a f3b
   obtain ⟨y4,hy4,h⟩ := ob h
   have f5 := de hy4
   have f5a := (f5.2.2 TV.str).1
   have f5b := (f5.2.2 TV.str).2
   try simp only [CL,MC,reduceToNat] at f5 f5a f5b
   by_cases c6 : y2 = y4
   · rw [if_pos c6] at h
     injection h with h; subst h
     have ih := ih (IntKind.i64.wrap (v3 + (1 : Int))) rfl
     unfold gr at ih
     simp -implicitDefEqProofs only [fu,dp,TT,Ic.t,ci,reduceEqDiff,reduceIte,reduceAdd,reduceLT,reduceCtorEq,reduceToNat,hl,c1,f3.1,f3.2.1,f3a,f3b,f5.1,f5.2.1,f5a,f5b,eq_true c6,CL,LTN]
     rw [hn]
     simp -implicitDefEqProofs only [TT,Ic.t,ci,reduceEqDiff,reduceIte,reduceAdd,reduceLT,reduceCtorEq,reduceToNat,hl,c1,f3.1,f3.2.1,f3a,f3b,f5.1,f5.2.1,f5a,f5b,eq_true c6,CL,LTN]
     exact ih  τ    (by first | assumption | (simp only [ag,ak]; assumption)) Q hQ0 hQ1
   rw [if_neg c6] at h
   injection h with h; subst h
   obtain rfl : _ = r := ih
   simp -implicitDefEqProofs only [fu,dp,TT,Ic.t,ci,reduceEqDiff,reduceIte,reduceAdd,reduceLT,reduceCtorEq,reduceToNat,hl,he,hr,c1,f3.1,f3.2.1,f3a,f3b,f5.1,f5.2.1,f5a,f5b,c6,CL,LTN]
   exact hQ1 false rfl  _ _  (by first | exact kf (Nat.le_refl _) | (simp -implicitDefEqProofs only [TT,Ic.t,ci,reduceEqDiff,reduceIte,reduceAdd,reduceLT,reduceCtorEq,reduceToNat,hl,c1,f3.1,f3.2.1,f3a,f3b,f5.1,f5.2.1,f5a,f5b,c6,CL,LTN]))
 rw [if_neg c1] at h
 injection h with h; subst h
 obtain rfl : _ = r := ih
 simp -implicitDefEqProofs only [fu,dp,TT,Ic.t,ci,reduceEqDiff,reduceIte,reduceAdd,reduceLT,reduceCtorEq,reduceToNat,hl,he,hr,c1,CL,LTN]
 exact hQ0 () rfl  _ _ _   (by first | rfl | (simp -implicitDefEqProofs only [TT,Ic.t,ci,reduceEqDiff,reduceIte,reduceAdd,reduceLT,reduceCtorEq,reduceToNat,hl,c1,CL,LTN])) (by first | exact kf (Nat.le_refl _) | (simp -implicitDefEqProofs only [TT,Ic.t,ci,reduceEqDiff,reduceIte,reduceAdd,reduceLT,reduceCtorEq,reduceToNat,hl,c1,CL,LTN]))
def cj (p1 : (List ByteArray)) (p2 : (List ByteArray)) : Option Bool :=
 if ((p1.length : Nat) : Int) = ((p2.length : Nat) : Int) then
  bf p1 p2 ((p1.length : Nat) : Int) (0 : Int) >>= fun y2 =>
  match y2 with
  | .ex w3 =>
   some true
  | .rt w5 =>
   some w5
 else
 some false
theorem qy (p1 : (List ByteArray)) (p2 : (List ByteArray)) (r : Bool) (h : cj p1 p2 = some r) (τ : TH) (hl : τ.lock ≤ τ.next) : Ru G du [.sl (List.map TV.str p1),.sl (List.map TV.str p2)] τ (.bool r) τ := by
 refine jv fun K hK => ?_
 rw [bx zc83 (Nat.le_of_ble_eq_true rfl)]
 unfold cj at h
 by_cases c1 : ((p1.length : Nat) : Int) = ((p2.length : Nat) : Int)
 · rw [if_pos c1] at h
   obtain ⟨y2,hy2,h⟩ := ob h
   simp -implicitDefEqProofs only [dp,TT,Ic.t,ci,reduceEqDiff,reduceIte,reduceAdd,reduceLT,reduceCtorEq,reduceToNat,hl,eq_true c1,CL,LTN]
   have Sy2 := zc9f p1 p2 ((p1.length : Nat) : Int) (0 : Int) y2 hy2
   unfold gr at Sy2
   refine Sy2 _ (by first | assumption | omega | (simp only [ag,ap,ak,bb]; omega)) _ ?_ ?_
   · intro w3 e frq4 tkq4 τq4 htq4 hcq4
     subst e
     simp only at h
     have hcq4 := gc (n := τ.next) hcq4 (by first | omega | (simp only [ag,ap]; omega))
     try simp only [List.take_succ_cons,List.take_zero,List.take_nil,CL] at htq4
     try simp -implicitDefEqProofs only [TT,Ic.t,ci,reduceEqDiff,reduceIte,reduceAdd,reduceLT,reduceCtorEq,reduceToNat,hl,eq_true c1,CL,LTN] at hcq4
     injection h with h; subst h
     simp -implicitDefEqProofs only [dp,TT,Ic.t,ci,reduceEqDiff,reduceIte,reduceAdd,reduceLT,reduceCtorEq,reduceToNat,hl,eq_true c1,htq4,hcq4,CL,LTN]
     exact hK
   intro w5 e tkq6 τq6 hcq6
   subst e
   simp only at h
   have hcq6 := gc (n := τ.next) hcq6 (by first | omega | (simp only [ag,ap]; omega))
   try simp -implicitDefEqProofs only [TT,Ic.t,ci,reduceEqDiff,reduceIte,reduceAdd,reduceLT,reduceCtorEq,reduceToNat,hl,eq_true c1,CL,LTN] at hcq6
   injection h with h; subst h
   simp -implicitDefEqProofs only [dp,TT,Ic.t,ci,reduceEqDiff,reduceIte,reduceAdd,reduceLT,reduceCtorEq,reduceToNat,hl,eq_true c1,hcq6,CL,LTN]
   exact hK
 rw [if_neg c1] at h
 injection h with h; subst h
 simp -implicitDefEqProofs only [dp,TT,Ic.t,ci,reduceEqDiff,reduceIte,reduceAdd,reduceLT,reduceCtorEq,reduceToNat,hl,c1,CL,LTN]
 exact hK
theorem qz (p1 : (List ByteArray)) (p2 : (List ByteArray)) (r : Bool) (h : cj p1 p2 = some r) (lk : Bool) (d : Option Nat) (K : av) (fr : TF) (tk : TK) (τ : TH) (hl : τ.lock ≤ τ.next) : fp G lk du [.sl (List.map TV.str p1),.sl (List.map TV.str p2)] d K fr tk τ = K (gg fr d (.bool r)) tk τ :=
 bn (qy p1 p2 r h τ  hl) (qy p1 p2 r h (τ.locked τ.next)  (Nat.le_refl _) ) (by simp -implicitDefEqProofs only [TT,Ic.t,ci,reduceEqDiff,reduceIte,reduceAdd,reduceLT,reduceCtorEq,reduceToNat,hl,CL,LTN])
def ur (p1 : ac) (p2 : ac) : Option Bool :=
 if p1.Account = p2.Account then
  cj p1.Keys p2.Keys >>= fun y2 =>
  some y2
 else
 some false
theorem zctm (p1 : ac) (p2 : ac) (r : Bool) (h : ur p1 p2 = some r) (τ : TH) (hl : τ.lock ≤ τ.next) : Ru G nf [.agg [.str p1.Account,.sl (List.map TV.str p1.Keys)],.agg [.str p2.Account,.sl (List.map TV.str p2.Keys)]] τ (.bool r) τ := by
 refine jv fun K hK => ?_
 rw [bx zda1 (Nat.le_of_ble_eq_true rfl)]
 unfold ur at h
 by_cases c1 : p1.Account = p2.Account
 · rw [if_pos c1] at h
   obtain ⟨y2,hy2,h⟩ := ob h
   have k3 := qz p1.Keys p2.Keys _ hy2
   try simp only [CL,MC,reduceToNat] at k3
   injection h with h; subst h
   simp -implicitDefEqProofs only [zcoc,TT,Ic.t,ci,reduceEqDiff,reduceIte,reduceAdd,reduceLT,reduceCtorEq,reduceToNat,hl,eq_true c1,k3,CL,LTN]
   exact hK
 rw [if_neg c1] at h
 injection h with h; subst h
 simp -implicitDefEqProofs only [zcoc,TT,Ic.t,ci,reduceEqDiff,reduceIte,reduceAdd,reduceLT,reduceCtorEq,reduceToNat,hl,c1,CL,LTN]
 exact hK
theorem zc5x (p1 : ac) (p2 : ac) (r : Bool) (h : ur p1 p2 = some r) (lk : Bool) (d : Option Nat) (K : av) (fr : TF) (tk : TK) (τ : TH) (hl : τ.lock ≤ τ.next) : fp G lk nf [.agg [.str p1.Account,.sl (List.map TV.str p1.Keys)],.agg [.str p2.Account,.sl (List.map TV.str p2.Keys)]] d K fr tk τ = K (gg fr d (.bool r)) tk τ :=
 bn (zctm p1 p2 r h τ  hl) (zctm p1 p2 r h (τ.locked τ.next)  (Nat.le_refl _) ) (by simp -implicitDefEqProofs only [TT,Ic.t,ci,reduceEqDiff,reduceIte,reduceAdd,reduceLT,reduceCtorEq,reduceToNat,hl,CL,LTN])
def am (v0 : (List ac)) (v1 : (List ac)) (v2 : Int) (v3 : Int) : Option (LS (Int) (LX (Unit) (Bool))) :=
 if v3 < v2 then
  ixL v1 v3 >>= fun y2 =>
  ixL v0 v3 >>= fun y4 =>
  ur (⟨y2.Account,y2.Keys⟩ : ac) (⟨y4.Account,y4.Keys⟩ : ac) >>= fun y6 =>
  if y6 = true then
   some (.nx (IntKind.i64.wrap (v3 + (1 : Int))))
  else
  some (.dn (.rt false))
 else
 some (.dn (.ex ()))
def aj (v0 : (List ac)) (v1 : (List ac)) (v2 : Int) (v3 : Int) : Option (LX (Unit) (Bool)) := sq (fun st => am v0 v1 v2 st) v3
theorem bz (v0 : (List ac)) (v1 : (List ac)) (v2 : Int) (v3 : Int) : aj v0 v1 v2 v3 = am v0 v1 v2 v3 >>= LS.go (fun st => aj v0 v1 v2 st) := gy (fun st => am v0 v1 v2 st) v3
def bm (v0 : (List ac)) (v1 : (List ac)) (v2 : Int) (v3 : Int) (r : LX (Unit) (Bool)) : Prop := ∀ (τ : TH) (hl : τ.lock ≤ τ.next) (Q : TEx → av) (hQ0 : ∀ v : Unit,r = (.ex v) → ∀ (fr : TF) (tk2 : TK) (τ2 : TH),tk2.take 0 = [] → τ2.cut τ.next = τ → Q (.exit 0) fr tk2 τ2) (hQ1 : ∀ v : Bool,r = (.rt v) → ∀ (tk2 : TK) (τ2 : TH),τ2.cut τ.next = τ → Q .ret [(6,.bool v)] tk2 τ2) ,tW G (.loop [1,2,15,16,17] bd) Q [(1,.sl (List.map ac.tv v0)),(2,.func nf [] []),(15,.sl (List.map ac.tv v1)),(16,.int .i64 v2),(17,.int .i64 v3)] [] τ
theorem j8 (v0 : (List ac)) (v1 : (List ac)) (v2 : Int) (v3 : Int) (r : LX (Unit) (Bool)) (h : aj v0 v1 v2 v3 = some r) : bm v0 v1 v2 v3 r := by
 refine fg (f := fun st => am v0 v1 v2 st) (P := fun st r => ∀ (v3 : Int),v3 = st → bm v0 v1 v2 v3 r) ?_ h v3 rfl
 clear h r v3
 intro st o h r ih v3 hst τ  hl Q hQ0 hQ1
 subst hst
 have h : am v0 v1 v2 v3 = some o := h
 unfold am at h
 refine pj fun LQ hn hr he => ?_
 by_cases c1 : v3 < v2
 · rw [if_pos c1] at h
   obtain ⟨y2,hy2,h⟩ := ob h
   have f3 := de hy2
   have f3a := (f3.2.2 ac.tv).1
   have f3b := (f3.2.2 ac.tv).2
   try simp only [CL,MC,reduceToNat] at f3 f3a f3b
   obtain ⟨y4,hy4,h⟩ := ob h
   have f5 := de hy4
   have f5a := (f5.2.2 ac.tv).1
   have f5b := (f5.2.2 ac.tv).2
   try simp only [CL,MC,reduceToNat] at f5 f5a f5b
   obtain ⟨y6,hy6,h⟩ := ob h
   have k7 := zc5x (⟨y2.Account,y2.Keys⟩ : ac) (⟨y4.Account,y4.Keys⟩ : ac) _ hy6
   try simp only [CL,MC,reduceToNat] at k7
   by_cases c8 : y6 = true
   · rw [if_pos c8] at h
     injection h with h; subst h
     have ih := ih (IntKind.i64.wrap (v3 + (1 : Int))) rfl
     unfold bm at ih
     simp -implicitDefEqProofs only [bd,aw,TT,Ic.t,ci,reduceEqDiff,reduceIte,reduceAdd,reduceLT,reduceCtorEq,reduceToNat,hl,c1,f3.1,f3.2.1,f3a,f3b,f5.1,f5.2.1,f5a,f5b,k7,c8,CL,LTN]
     rw [hn]
     simp -implicitDefEqProofs only [TT,Ic.t,ci,reduceEqDiff,reduceIte,reduceAdd,reduceLT,reduceCtorEq,reduceToNat,hl,c1,f3.1,f3.2.1,f3a,f3b,f5.1,f5.2.1,f5a,f5b,k7,c8,CL,LTN]
     exact ih  τ    (by first | assumption | (simp only [ag,ak]; assumption)) Q hQ0 hQ1
   rw [if_neg c8] at h
   have c8 := Bool.eq_false_iff.2 c8
   injection h with h; subst h
   obtain rfl : _ = r := ih
   simp -implicitDefEqProofs only [bd,aw,TT,Ic.t,ci,reduceEqDiff,reduceIte,reduceAdd,reduceLT,reduceCtorEq,reduceToNat,hl,he,hr,c1,f3.1,f3.2.1,f3a,f3b,f5.1,f5.2.1,f5a,f5b,k7,c8,CL,LTN]
   exact hQ1 false rfl  _ _  (by first | exact kf (Nat.le_refl _) | (simp -implicitDefEqProofs only [TT,Ic.t,ci,reduceEqDiff,reduceIte,reduceAdd,reduceLT,reduceCtorEq,reduceToNat,hl,c1,f3.1,f3.2.1,f3a,f3b,f5.1,f5.2.1,f5a,f5b,k7,c8,CL,LTN]))
 rw [if_neg c1] at h
 injection h with h; subst h
 obtain rfl : _ = r := ih
 simp -implicitDefEqProofs only [bd,aw,TT,Ic.t,ci,reduceEqDiff,reduceIte,reduceAdd,reduceLT,reduceCtorEq,reduceToNat,hl,he,hr,c1,CL,LTN]
 exact hQ0 () rfl  _ _ _   (by first | rfl | (simp -implicitDefEqProofs only [TT,Ic.t,ci,reduceEqDiff,reduceIte,reduceAdd,reduceLT,reduceCtorEq,reduceToNat,hl,c1,CL,LTN])) (by first | exact kf (Nat.le_refl _) | (simp -implicitDefEqProofs only [TT,Ic.t,ci,reduceEqDiff,reduceIte,reduceAdd,reduceLT,reduceCtorEq,reduceToNat,hl,c1,CL,LTN]))
def ax (p1 : (List ac)) (p2 : (List ac)) : Option Bool :=
 if ((p1.length : Nat) : Int) = ((p2.length : Nat) : Int) then
  aj p2 p1 ((p1.length : Nat) : Int) (0 : Int) >>= fun y2 =>
  match y2 with
  | .ex w3 =>
   some true
  | .rt w5 =>
   some w5
 else
 some false
theorem en (p1 : (List ac)) (p2 : (List ac)) (r : Bool) (h : ax p1 p2 = some r) (τ : TH) (hl : τ.lock ≤ τ.next) : Ru G az [.sl (List.map ac.tv p1),.sl (List.map ac.tv p2),.func nf [] []] τ (.bool r) τ := by
 refine jv fun K hK => ?_
 rw [bx lu (Nat.le_of_ble_eq_true rfl)]
 unfold ax at h
 by_cases c1 : ((p1.length : Nat) : Int) = ((p2.length : Nat) : Int)
 · rw [if_pos c1] at h
   obtain ⟨y2,hy2,h⟩ := ob h
   simp -implicitDefEqProofs only [aw,TT,Ic.t,ci,reduceEqDiff,reduceIte,reduceAdd,reduceLT,reduceCtorEq,reduceToNat,hl,eq_true c1,CL,LTN]
   have Sy2 := j8 p2 p1 ((p1.length : Nat) : Int) (0 : Int) y2 hy2
   unfold bm at Sy2
   refine Sy2 _ (by first | assumption | omega | (simp only [ag,ap,ak,bb]; omega)) _ ?_ ?_
   · intro w3 e frq4 tkq4 τq4 htq4 hcq4
     subst e
     simp only at h
     have hcq4 := gc (n := τ.next) hcq4 (by first | omega | (simp only [ag,ap]; omega))
     try simp only [List.take_succ_cons,List.take_zero,List.take_nil,CL] at htq4
     try simp -implicitDefEqProofs only [TT,Ic.t,ci,reduceEqDiff,reduceIte,reduceAdd,reduceLT,reduceCtorEq,reduceToNat,hl,eq_true c1,CL,LTN] at hcq4
     injection h with h; subst h
     simp -implicitDefEqProofs only [aw,TT,Ic.t,ci,reduceEqDiff,reduceIte,reduceAdd,reduceLT,reduceCtorEq,reduceToNat,hl,eq_true c1,htq4,hcq4,CL,LTN]
     exact hK
   intro w5 e tkq6 τq6 hcq6
   subst e
   simp only at h
   have hcq6 := gc (n := τ.next) hcq6 (by first | omega | (simp only [ag,ap]; omega))
   try simp -implicitDefEqProofs only [TT,Ic.t,ci,reduceEqDiff,reduceIte,reduceAdd,reduceLT,reduceCtorEq,reduceToNat,hl,eq_true c1,CL,LTN] at hcq6
   injection h with h; subst h
   simp -implicitDefEqProofs only [aw,TT,Ic.t,ci,reduceEqDiff,reduceIte,reduceAdd,reduceLT,reduceCtorEq,reduceToNat,hl,eq_true c1,hcq6,CL,LTN]
   exact hK
 rw [if_neg c1] at h
 injection h with h; subst h
 simp -implicitDefEqProofs only [aw,TT,Ic.t,ci,reduceEqDiff,reduceIte,reduceAdd,reduceLT,reduceCtorEq,reduceToNat,hl,c1,CL,LTN]
 exact hK
theorem kl (p1 : (List ac)) (p2 : (List ac)) (r : Bool) (h : ax p1 p2 = some r) (lk : Bool) (d : Option Nat) (K : av) (fr : TF) (tk : TK) (τ : TH) (hl : τ.lock ≤ τ.next) : fp G lk az [.sl (List.map ac.tv p1),.sl (List.map ac.tv p2),.func nf [] []] d K fr tk τ = K (gg fr d (.bool r)) tk τ :=
 bn (en p1 p2 r h τ  hl) (en p1 p2 r h (τ.locked τ.next)  (Nat.le_refl _) ) (by simp -implicitDefEqProofs only [TT,Ic.t,ci,reduceEqDiff,reduceIte,reduceAdd,reduceLT,reduceCtorEq,reduceToNat,hl,CL,LTN])
def bc (v0 : (List af)) (v1 : (List af)) (v2 : Int) (v3 : Int) : Option (LS (Int) (LX (Unit) (Bool))) :=
 if v3 < v2 then
  ixL v0 v3 >>= fun y2 =>
  ixL v1 v3 >>= fun y4 =>
  if ((y2.From == y4.From) && ((y2.To == y4.To) && ((y2.Ledger == y4.Ledger) && ((y2.Asset == y4.Asset) && (y2.Amount == y4.Amount))))) = true then
   some (.nx (IntKind.i64.wrap (v3 + (1 : Int))))
  else
  some (.dn (.rt false))
 else
 some (.dn (.ex ()))
def ba (v0 : (List af)) (v1 : (List af)) (v2 : Int) (v3 : Int) : Option (LX (Unit) (Bool)) := sq (fun st => bc v0 v1 v2 st) v3
theorem ip (v0 : (List af)) (v1 : (List af)) (v2 : Int) (v3 : Int) : ba v0 v1 v2 v3 = bc v0 v1 v2 v3 >>= LS.go (fun st => ba v0 v1 v2 st) := gy (fun st => bc v0 v1 v2 st) v3
def ga (v0 : (List af)) (v1 : (List af)) (v2 : Int) (v3 : Int) (r : LX (Unit) (Bool)) : Prop := ∀ (τ : TH) (hl : τ.lock ≤ τ.next) (Q : TEx → av) (hQ0 : ∀ v : Unit,r = (.ex v) → ∀ (fr : TF) (tk2 : TK) (τ2 : TH),tk2.take 0 = [] → τ2.cut τ.next = τ → Q (.exit 0) fr tk2 τ2) (hQ1 : ∀ v : Bool,r = (.rt v) → ∀ (tk2 : TK) (τ2 : TH),τ2.cut τ.next = τ → Q .ret [(4,.bool v)] tk2 τ2) ,tW G (.loop [0,1,12,13] ek) Q [(0,.sl (List.map af.tv v0)),(1,.sl (List.map af.tv v1)),(12,.int .i64 v2),(13,.int .i64 v3)] [] τ
theorem xw (v0 : (List af)) (v1 : (List af)) (v2 : Int) (v3 : Int) (r : LX (Unit) (Bool)) (h : ba v0 v1 v2 v3 = some r) : ga v0 v1 v2 v3 r := by
 refine fg (f := fun st => bc v0 v1 v2 st) (P := fun st r => ∀ (v3 : Int),v3 = st → ga v0 v1 v2 v3 r) ?_ h v3 rfl
 clear h r v3
 intro st o h r ih v3 hst τ  hl Q hQ0 hQ1
 subst hst
 have h : bc v0 v1 v2 v3 = some o := h
 unfold bc at h
 refine pj fun LQ hn hr he => ?_
 by_cases c1 : v3 < v2
 · rw [if_pos c1] at h
   obtain ⟨y2,hy2,h⟩ := ob h
   have f3 := de hy2
   have f3a := (f3.2.2 af.tv).1
   have f3b := (f3.2.2 af.tv).2
   try simp only [CL,MC,reduceToNat] at f3 f3a f3b
   obtain ⟨y4,hy4,h⟩ := ob h
   have f5 := de hy4
   have f5a := (f5.2.2 af.tv).1
   have f5b := (f5.2.2 af.tv).2
   try simp only [CL,MC,reduceToNat] at f5 f5a f5b
   by_cases c6 : ((y2.From == y4.From) && ((y2.To == y4.To) && ((y2.Ledger == y4.Ledger) && ((y2.Asset == y4.Asset) && (y2.Amount == y4.Amount))))) = true
   · rw [if_pos c6] at h
     injection h with h; subst h
     have ih := ih (IntKind.i64.wrap (v3 + (1 : Int))) rfl
     unfold ga at ih
     simp -implicitDefEqProofs only [ek,dd,TT,Ic.t,ci,reduceEqDiff,reduceIte,reduceAdd,reduceLT,reduceCtorEq,reduceToNat,hl,c1,f3.1,f3.2.1,f3a,f3b,f5.1,f5.2.1,f5a,f5b,zbt1,teq,c6,CL,LTN]
     rw [hn]
     simp -implicitDefEqProofs only [TT,Ic.t,ci,reduceEqDiff,reduceIte,reduceAdd,reduceLT,reduceCtorEq,reduceToNat,hl,c1,f3.1,f3.2.1,f3a,f3b,f5.1,f5.2.1,f5a,f5b,zbt1,teq,c6,CL,LTN]
     exact ih  τ    (by first | assumption | (simp only [ag,ak]; assumption)) Q hQ0 hQ1
   rw [if_neg c6] at h
   have c6 := Bool.eq_false_iff.2 c6
   injection h with h; subst h
   obtain rfl : _ = r := ih
   simp -implicitDefEqProofs only [ek,dd,TT,Ic.t,ci,reduceEqDiff,reduceIte,reduceAdd,reduceLT,reduceCtorEq,reduceToNat,hl,he,hr,c1,f3.1,f3.2.1,f3a,f3b,f5.1,f5.2.1,f5a,f5b,zbt1,teq,c6,CL,LTN]
   exact hQ1 false rfl  _ _  (by first | exact kf (Nat.le_refl _) | (simp -implicitDefEqProofs only [TT,Ic.t,ci,reduceEqDiff,reduceIte,reduceAdd,reduceLT,reduceCtorEq,reduceToNat,hl,c1,f3.1,f3.2.1,f3a,f3b,f5.1,f5.2.1,f5a,f5b,zbt1,teq,c6,CL,LTN]))
 rw [if_neg c1] at h
 injection h with h; subst h
 obtain rfl : _ = r := ih
 simp -implicitDefEqProofs only [ek,dd,TT,Ic.t,ci,reduceEqDiff,reduceIte,reduceAdd,reduceLT,reduceCtorEq,reduceToNat,hl,he,hr,c1,CL,LTN]
 exact hQ0 () rfl  _ _ _   (by first | rfl | (simp -implicitDefEqProofs only [TT,Ic.t,ci,reduceEqDiff,reduceIte,reduceAdd,reduceLT,reduceCtorEq,reduceToNat,hl,c1,CL,LTN])) (by first | exact kf (Nat.le_refl _) | (simp -implicitDefEqProofs only [TT,Ic.t,ci,reduceEqDiff,reduceIte,reduceAdd,reduceLT,reduceCtorEq,reduceToNat,hl,c1,CL,LTN]))
def dz (p1 : (List af)) (p2 : (List af)) : Option Bool :=
 if ((p1.length : Nat) : Int) = ((p2.length : Nat) : Int) then
  ba p1 p2 ((p1.length : Nat) : Int) (0 : Int) >>= fun y2 =>
  match y2 with
  | .ex w3 =>
   some true
  | .rt w5 =>
   some w5
 else
 some false
theorem po (p1 : (List af)) (p2 : (List af)) (r : Bool) (h : dz p1 p2 = some r) (τ : TH) (hl : τ.lock ≤ τ.next) : Ru G d4 [.sl (List.map af.tv p1),.sl (List.map af.tv p2)] τ (.bool r) τ := by
 refine jv fun K hK => ?_
 rw [bx zc9a (Nat.le_of_ble_eq_true rfl)]
 unfold dz at h
 by_cases c1 : ((p1.length : Nat) : Int) = ((p2.length : Nat) : Int)
 · rw [if_pos c1] at h
   obtain ⟨y2,hy2,h⟩ := ob h
   simp -implicitDefEqProofs only [dd,TT,Ic.t,ci,reduceEqDiff,reduceIte,reduceAdd,reduceLT,reduceCtorEq,reduceToNat,hl,eq_true c1,CL,LTN]
   have Sy2 := xw p1 p2 ((p1.length : Nat) : Int) (0 : Int) y2 hy2
   unfold ga at Sy2
   refine Sy2 _ (by first | assumption | omega | (simp only [ag,ap,ak,bb]; omega)) _ ?_ ?_
   · intro w3 e frq4 tkq4 τq4 htq4 hcq4
     subst e
     simp only at h
     have hcq4 := gc (n := τ.next) hcq4 (by first | omega | (simp only [ag,ap]; omega))
     try simp only [List.take_succ_cons,List.take_zero,List.take_nil,CL] at htq4
     try simp -implicitDefEqProofs only [TT,Ic.t,ci,reduceEqDiff,reduceIte,reduceAdd,reduceLT,reduceCtorEq,reduceToNat,hl,eq_true c1,CL,LTN] at hcq4
     injection h with h; subst h
     simp -implicitDefEqProofs only [dd,TT,Ic.t,ci,reduceEqDiff,reduceIte,reduceAdd,reduceLT,reduceCtorEq,reduceToNat,hl,eq_true c1,htq4,hcq4,CL,LTN]
     exact hK
   intro w5 e tkq6 τq6 hcq6
   subst e
   simp only at h
   have hcq6 := gc (n := τ.next) hcq6 (by first | omega | (simp only [ag,ap]; omega))
   try simp -implicitDefEqProofs only [TT,Ic.t,ci,reduceEqDiff,reduceIte,reduceAdd,reduceLT,reduceCtorEq,reduceToNat,hl,eq_true c1,CL,LTN] at hcq6
   injection h with h; subst h
   simp -implicitDefEqProofs only [dd,TT,Ic.t,ci,reduceEqDiff,reduceIte,reduceAdd,reduceLT,reduceCtorEq,reduceToNat,hl,eq_true c1,hcq6,CL,LTN]
   exact hK
 rw [if_neg c1] at h
 injection h with h; subst h
 simp -implicitDefEqProofs only [dd,TT,Ic.t,ci,reduceEqDiff,reduceIte,reduceAdd,reduceLT,reduceCtorEq,reduceToNat,hl,c1,CL,LTN]
 exact hK
theorem zc9j (p1 : (List af)) (p2 : (List af)) (r : Bool) (h : dz p1 p2 = some r) (lk : Bool) (d : Option Nat) (K : av) (fr : TF) (tk : TK) (τ : TH) (hl : τ.lock ≤ τ.next) : fp G lk d4 [.sl (List.map af.tv p1),.sl (List.map af.tv p2)] d K fr tk τ = K (gg fr d (.bool r)) tk τ :=
 bn (po p1 p2 r h τ  hl) (po p1 p2 r h (τ.locked τ.next)  (Nat.le_refl _) ) (by simp -implicitDefEqProofs only [TT,Ic.t,ci,reduceEqDiff,reduceIte,reduceAdd,reduceLT,reduceCtorEq,reduceToNat,hl,CL,LTN])
end
end Go.Proofs.Ytdcfoaafkppojaa
