import Derived.Test.YtdcfoaafkppojaaD4
set_option linter.unusedVariables false
set_option linter.unusedSimpArgs false
set_option linter.unusedSectionVars false
open Nat (reduceEqDiff reduceAdd reduceMul reduceLT reduceLeDiff reduceSub)
open Int (reduceToNat reduceNe reduceEq reduceNeg reduceLE)
namespace Go.Proofs.Ytdcfoaafkppojaa
open Go Go.RowKit Sh Ic
noncomputable def vq (p1 : ac) (p2 : Int) : Option (List Int) :=
 ke p1 >>= fun y1 =>
 if y1 = true then
  ip p2 p1.Arcs ((p1.Arcs.length : Nat) : Int) [] (0 : Int) >>= fun y4 =>
  some y4
 else
 some []
theorem zcgv (p1 : ac) (p2 : Int) (r : (List Int)) (h : vq p1 p2 = some r) (τ : TH) (o0 : Nat) (hl : τ.lock ≤ τ.next) (ha0 : τ.at o0 = some ⟨dq,[.int .i64 p2]⟩) (hi0 : o0 < τ.next) : Ru G kd [.agg [.str p1.ID,.sl (List.map af.tv p1.Parties),.sl (List.map aa.tv p1.Arcs),.sl (List.map (TV.int .i64) p1.Leaders),.sl (List.map TV.str p1.Locks),.int .i64 p1.Start,.int .i64 p1.Delta],.func io [] [.ptr o0 0]] τ (.sl (List.map (TV.int .i64) r)) τ := by
 refine kb fun K hK => ?_
 rw [cb zccu (Nat.le_of_ble_eq_true rfl)]
 unfold vq at h
 obtain ⟨y1,hy1,h⟩ := ob h
 have k2 := sf p1 _ hy1
 try simp only [CL,MC,reduceToNat] at k2
 by_cases c3 : y1 = true
 · rw [if_pos c3] at h
   obtain ⟨y4,hy4,h⟩ := ob h
   simp only [gi,TT,Ic.t,ci,reduceEqDiff,reduceIte,reduceAdd,reduceLT,reduceCtorEq,reduceToNat,hl,ha0,hi0,k2,c3,CL,LTN]
   have Sy4 := zct0 p2 p1.Arcs ((p1.Arcs.length : Nat) : Int) [] (0 : Int) y4 hy4
   unfold me at Sy4
   refine Sy4 _ o0 0 0 (by first | rfl | simp [aq]) (by first | exact Or.inl rfl | exact Or.inr rfl | assumption | simp) (by first | assumption | omega | (simp only [ag,ak,ah,ay]; omega)) (by simp only [TT,Ic.t,ci,reduceEqDiff,reduceIte,reduceAdd,reduceLT,reduceCtorEq,reduceToNat,hl,ha0,hi0,k2,c3,CL,LTN]) (by first | assumption | omega | (simp only [ag,ak,ah,ay]; omega)) _ ?_
   intro frq5 tkq5 τq5 u0q5 uh0q5 g5q5 htq5 hcq5
   have hcq5 := eu (n := τ.next + 1) hcq5 (by first | omega | (simp only [ag,ak]; omega))
   try simp only [List.take_succ_cons,List.take_zero,List.take_nil,CL] at htq5
   try simp only [TT,Ic.t,ci,reduceEqDiff,reduceIte,reduceAdd,reduceLT,reduceCtorEq,reduceToNat,hl,ha0,hi0,k2,c3,CL,LTN] at hcq5
   injection h with h; subst h
   simp only [gi,TT,Ic.t,ci,reduceEqDiff,reduceIte,reduceAdd,reduceLT,reduceCtorEq,reduceToNat,hl,ha0,hi0,k2,c3,uh0q5,g5q5,htq5,hcq5,CL,LTN]
   first | exact hK | (simp only [hl,ha0,hi0,k2,c3,uh0q5,g5q5,htq5,hcq5,CL] at hK; exact hK)
 rw [if_neg c3] at h
 have c3 := Bool.eq_false_iff.2 c3
 injection h with h; subst h
 simp only [gi,TT,Ic.t,ci,reduceEqDiff,reduceIte,reduceAdd,reduceLT,reduceCtorEq,reduceToNat,hl,ha0,hi0,k2,c3,CL,LTN]
 first | exact hK | (simp only [hl,ha0,hi0,k2,c3,CL] at hK; exact hK)
theorem zcsp (p1 : ac) (p2 : Int) (r : (List Int)) (h : vq p1 p2 = some r) (lk : Bool) (d : Option Nat) (K : ap) (fr : TF) (tk : TK) (τ : TH) (o0 : Nat) (hl : τ.lock ≤ τ.next) (ha0 : τ.at o0 = some ⟨dq,[.int .i64 p2]⟩) (hi0 : o0 < τ.next) : fj G lk kd [.agg [.str p1.ID,.sl (List.map af.tv p1.Parties),.sl (List.map aa.tv p1.Arcs),.sl (List.map (TV.int .i64) p1.Leaders),.sl (List.map TV.str p1.Locks),.int .i64 p1.Start,.int .i64 p1.Delta],.func io [] [.ptr o0 0]] d K fr tk τ = K (eo fr d (.sl (List.map (TV.int .i64) r))) tk τ :=
 av (zcgv p1 p2 r h τ o0 hl ha0 hi0) (zcgv p1 p2 r h (τ.locked τ.next) o0 (Nat.le_refl _) (by rw [za4o]; exact ha0) hi0) (by simp only [TT,Ic.t,ci,reduceEqDiff,reduceIte,reduceAdd,reduceLT,reduceCtorEq,reduceToNat,hl,ha0,hi0,CL,LTN])
noncomputable def qy (p1 : ac) (p2 : Int) : Option (List Int) :=
 vq p1 p2 >>= fun y1 =>
 some y1
theorem zcf0 (p1 : ac) (p2 : Int) (r : (List Int)) (h : qy p1 p2 = some r) (τ : TH) (hl : τ.lock ≤ τ.next) : Ru G rc [.agg [.str p1.ID,.sl (List.map af.tv p1.Parties),.sl (List.map aa.tv p1.Arcs),.sl (List.map (TV.int .i64) p1.Leaders),.sl (List.map TV.str p1.Locks),.int .i64 p1.Start,.int .i64 p1.Delta],.int .i64 p2] τ (.sl (List.map (TV.int .i64) r)) τ := by
 refine kb fun K hK => ?_
 rw [cb zcq7 (Nat.le_of_ble_eq_true rfl)]
 unfold qy at h
 obtain ⟨y1,hy1,h⟩ := ob h
 have k2 := zcsp p1 p2 _ hy1
 try simp only [CL,MC,reduceToNat] at k2
 injection h with h; subst h
 simp only [zcrg,TT,Ic.t,ci,reduceEqDiff,reduceIte,reduceAdd,reduceLT,reduceCtorEq,reduceToNat,hl,k2,CL,LTN]
 exact hK
theorem zcsn (p1 : ac) (p2 : Int) (r : (List Int)) (h : qy p1 p2 = some r) (lk : Bool) (d : Option Nat) (K : ap) (fr : TF) (tk : TK) (τ : TH) (hl : τ.lock ≤ τ.next) : fj G lk rc [.agg [.str p1.ID,.sl (List.map af.tv p1.Parties),.sl (List.map aa.tv p1.Arcs),.sl (List.map (TV.int .i64) p1.Leaders),.sl (List.map TV.str p1.Locks),.int .i64 p1.Start,.int .i64 p1.Delta],.int .i64 p2] d K fr tk τ = K (eo fr d (.sl (List.map (TV.int .i64) r))) tk τ :=
 av (zcf0 p1 p2 r h τ  hl) (zcf0 p1 p2 r h (τ.locked τ.next)  (Nat.le_refl _) ) (by simp only [TT,Ic.t,ci,reduceEqDiff,reduceIte,reduceAdd,reduceLT,reduceCtorEq,reduceToNat,hl,CL,LTN])
noncomputable def qe (p1 : aa) (p2 : Int) : Option Bool :=
 some (decide (p1.From = p2))
theorem zcie (p1 : aa) (p2 : Int) (r : Bool) (h : qe p1 p2 = some r) (τ : TH) (o0 : Nat) (hl : τ.lock ≤ τ.next) (ha0 : τ.at o0 = some ⟨dq,[.int .i64 p2]⟩) (hi0 : o0 < τ.next) : Ru G im [.agg [.int .i64 p1.From,.int .i64 p1.To,.int .i64 p1.Ledger,.str p1.Asset,.int .i64 p1.Amount],.ptr o0 0] τ (.bool r) τ := by
 refine kb fun K hK => ?_
 rw [cb zcsi (Nat.le_of_ble_eq_true rfl)]
 unfold qe at h
 injection h with h; subst h
 simp only [zcss,TT,Ic.t,ci,reduceEqDiff,reduceIte,reduceAdd,reduceLT,reduceCtorEq,reduceToNat,hl,ha0,hi0,CL,LTN]
 exact hK
theorem zctl (p1 : aa) (p2 : Int) (r : Bool) (h : qe p1 p2 = some r) (lk : Bool) (d : Option Nat) (K : ap) (fr : TF) (tk : TK) (τ : TH) (o0 : Nat) (hl : τ.lock ≤ τ.next) (ha0 : τ.at o0 = some ⟨dq,[.int .i64 p2]⟩) (hi0 : o0 < τ.next) : fj G lk im [.agg [.int .i64 p1.From,.int .i64 p1.To,.int .i64 p1.Ledger,.str p1.Asset,.int .i64 p1.Amount],.ptr o0 0] d K fr tk τ = K (eo fr d (.bool r)) tk τ :=
 av (zcie p1 p2 r h τ o0 hl ha0 hi0) (zcie p1 p2 r h (τ.locked τ.next) o0 (Nat.le_refl _) (by rw [za4o]; exact ha0) hi0) (by simp only [TT,Ic.t,ci,reduceEqDiff,reduceIte,reduceAdd,reduceLT,reduceCtorEq,reduceToNat,hl,ha0,hi0,CL,LTN])
noncomputable def df (v0 : Int) (v2 : (List aa)) (v3 : Int) (v1 : (List Int)) (v4 : Int) : Option (LS ((List Int) × Int) ((List Int))) :=
 if v4 < v3 then
  ixL v2 v4 >>= fun y2 =>
  qe (⟨y2.From,y2.To,y2.Ledger,y2.Asset,y2.Amount⟩ : aa) v0 >>= fun y4 =>
  if y4 = true then
   if (v1.length + 1) * 8 ≤ 140737488355328 then
    some (.nx ((v1 ++ [v4]),(IntKind.i64.wrap (v4 + (1 : Int)))))
   else
    none
  else
  some (.nx (v1,(IntKind.i64.wrap (v4 + (1 : Int)))))
 else
 some (.dn v1)
noncomputable def gw (v0 : Int) (v2 : (List aa)) (v3 : Int) (v1 : (List Int)) (v4 : Int) : Option ((List Int)) := qc (fun st => df v0 v2 v3 st.1 st.2) (v1,v4)
theorem yz (v0 : Int) (v2 : (List aa)) (v3 : Int) (v1 : (List Int)) (v4 : Int) : gw v0 v2 v3 v1 v4 = df v0 v2 v3 v1 v4 >>= LS.go (fun st => gw v0 v2 v3 st.1 st.2) := ij (fun st => df v0 v2 v3 st.1 st.2) (v1,v4)
def lg (v0 : Int) (v2 : (List aa)) (v3 : Int) (v1 : (List Int)) (v4 : Int) (r : (List Int)) : Prop := ∀ (τ : TH) (o0 : Nat) (n0 : Nat) (ty0 : TypeId) (hnn0 : n0 = v1.length) (hty0 : n0 = 0 ∨ ty0 = dq) (hl : τ.lock ≤ τ.next) (ha0 : τ.at o0 = some ⟨dq,[.int .i64 v0]⟩) (hi0 : o0 < τ.next) (Q : TEx → ap) (hQ0 : ∀ (fr : TF) (tk2 : TK) (τ2 : TH),∀ (u0 : TypeId),(r.length = 0 ∨ u0 = dq) → lkp fr 5 = .sla 0 (List.map (TV.int .i64) r) → tk2.take 1 = [some (r.length,u0)] → τ2.cut τ.next = τ → Q (.exit 0) fr tk2 τ2) ,tW G (.loop [1,5,12,13,14] ie) Q [(1,.func im [] [.ptr o0 0]),(5,.sla 0 (List.map (TV.int .i64) v1)),(12,.sl (List.map aa.tv v2)),(13,.int .i64 v3),(14,.int .i64 v4)] [some (n0,ty0)] τ
theorem zct1 (v0 : Int) (v2 : (List aa)) (v3 : Int) (v1 : (List Int)) (v4 : Int) (r : (List Int)) (h : gw v0 v2 v3 v1 v4 = some r) : lg v0 v2 v3 v1 v4 r := by
 refine fi (f := fun st => df v0 v2 v3 st.1 st.2) (P := fun st r => ∀ (v1 : (List Int)) (v4 : Int),(v1,v4) = st → lg v0 v2 v3 v1 v4 r) ?_ h v1 v4 rfl
 clear h r v4 v1
 intro st o h r ih v1 v4 hst τ o0  n0 ty0 hnn0 hty0 hl ha0 hi0 Q hQ0
 subst hst
 have h : df v0 v2 v3 v1 v4 = some o := h
 unfold df at h
 subst hnn0
 refine nk fun LQ hn hr he => ?_
 by_cases c1 : v4 < v3
 · rw [if_pos c1] at h
   obtain ⟨y2,hy2,h⟩ := ob h
   have f3 := bv hy2
   have f3a := (f3.2.2 aa.tv).1
   have f3b := (f3.2.2 aa.tv).2
   try simp only [CL,MC,reduceToNat] at f3 f3a f3b
   obtain ⟨y4,hy4,h⟩ := ob h
   have k5 := zctl (⟨y2.From,y2.To,y2.Ledger,y2.Asset,y2.Amount⟩ : aa) v0 _ hy4
   try simp only [CL,MC,reduceToNat] at k5
   by_cases c6 : y4 = true
   · rw [if_pos c6] at h
     obtain ⟨c7,h⟩ := ifS h
     have f8 : 1 ≤ maxLen := by unfold maxLen; omega
     have f9 : v1.length + 1 ≤ maxLen := by unfold maxLen; omega
     have f10 : ((List.map (TV.int .i64) v1).all fun e => e.cells.length == 1) = true := zbd2 (fun _ => rfl) _
     have f11 : List.map (TV.int .i64) v1 ++ List.map (TV.int .i64) [v4] = List.map (TV.int .i64) (v1 ++ [v4]) := zbm1 _ _
     try simp only [CL,List.map_cons,List.map_nil] at f11
     injection h with h; subst h
     have ih := ih (v1 ++ [v4]) (IntKind.i64.wrap (v4 + (1 : Int))) rfl
     unfold lg at ih
     simp only [ie,gi,TT,Ic.t,ci,reduceEqDiff,reduceIte,reduceAdd,reduceMul,reduceLT,reduceLeDiff,reduceSub,reduceCtorEq,reduceEq,reduceNe,reduceToNat,Int.reduceLT,reduceLE,reduceNeg,hl,ha0,hi0,hty0,c1,f3.1,f3.2.1,f3a,f3b,k5,c6,c7,f8,f9,f10,f11,CL,LTN]
     rw [hn]
     simp only [TT,Ic.t,ci,reduceEqDiff,reduceIte,reduceAdd,reduceMul,reduceLT,reduceLeDiff,reduceSub,reduceCtorEq,reduceEq,reduceNe,reduceToNat,Int.reduceLT,reduceLE,reduceNeg,hl,ha0,hi0,hty0,c1,f3.1,f3.2.1,f3a,f3b,k5,c6,c7,f8,f9,f10,f11,CL,LTN]
     exact ih  τ o0  (v1.length + 1) dq (by first | rfl | simp [aq]) (by first | exact hty0 | exact Or.inr rfl | assumption | simp) (by first | assumption | (simp only [ag,ah]; assumption)) (by simp only [TT,Ic.t,ci,reduceEqDiff,reduceIte,reduceAdd,reduceMul,reduceLT,reduceLeDiff,reduceSub,reduceCtorEq,reduceEq,reduceNe,reduceToNat,Int.reduceLT,reduceLE,reduceNeg,hl,ha0,hi0,hty0,c1,f3.1,f3.2.1,f3a,f3b,k5,c6,c7,f8,f9,f10,f11,CL,LTN]) (by first | assumption | (simp only [ag,ah]; assumption)) Q hQ0
   rw [if_neg c6] at h
   have c6 := Bool.eq_false_iff.2 c6
   injection h with h; subst h
   have ih := ih v1 (IntKind.i64.wrap (v4 + (1 : Int))) rfl
   unfold lg at ih
   simp only [ie,gi,TT,Ic.t,ci,reduceEqDiff,reduceIte,reduceAdd,reduceMul,reduceLT,reduceLeDiff,reduceSub,reduceCtorEq,reduceEq,reduceNe,reduceToNat,Int.reduceLT,reduceLE,reduceNeg,hl,ha0,hi0,hty0,c1,f3.1,f3.2.1,f3a,f3b,k5,c6,CL,LTN]
   rw [hn]
   simp only [TT,Ic.t,ci,reduceEqDiff,reduceIte,reduceAdd,reduceMul,reduceLT,reduceLeDiff,reduceSub,reduceCtorEq,reduceEq,reduceNe,reduceToNat,Int.reduceLT,reduceLE,reduceNeg,hl,ha0,hi0,hty0,c1,f3.1,f3.2.1,f3a,f3b,k5,c6,CL,LTN]
   exact ih  τ o0  _ ty0 (by first | rfl | simp [aq]) (by first | exact hty0 | exact Or.inr rfl | assumption | simp) (by first | assumption | (simp only [ag,ah]; assumption)) (by simp only [TT,Ic.t,ci,reduceEqDiff,reduceIte,reduceAdd,reduceMul,reduceLT,reduceLeDiff,reduceSub,reduceCtorEq,reduceEq,reduceNe,reduceToNat,Int.reduceLT,reduceLE,reduceNeg,hl,ha0,hi0,hty0,c1,f3.1,f3.2.1,f3a,f3b,k5,c6,CL,LTN]) (by first | assumption | (simp only [ag,ah]; assumption)) Q hQ0
 rw [if_neg c1] at h
 injection h with h; subst h
 obtain rfl : _ = r := ih
 simp only [ie,gi,TT,Ic.t,ci,reduceEqDiff,reduceIte,reduceAdd,reduceMul,reduceLT,reduceLeDiff,reduceSub,reduceCtorEq,reduceEq,reduceNe,reduceToNat,Int.reduceLT,reduceLE,reduceNeg,hl,ha0,hi0,hty0,he,hr,c1,CL,LTN]
 exact hQ0  _ _ _ ty0 (by first | exact hty0 | exact Or.inr rfl | assumption | simp) (by first | rfl | (simp only [TT,Ic.t,ci,reduceEqDiff,reduceIte,reduceAdd,reduceMul,reduceLT,reduceLeDiff,reduceSub,reduceCtorEq,reduceEq,reduceNe,reduceToNat,Int.reduceLT,reduceLE,reduceNeg,hl,ha0,hi0,hty0,c1,CL,LTN])) (by first | rfl | (simp only [TT,Ic.t,ci,reduceEqDiff,reduceIte,reduceAdd,reduceMul,reduceLT,reduceLeDiff,reduceSub,reduceCtorEq,reduceEq,reduceNe,reduceToNat,Int.reduceLT,reduceLE,reduceNeg,hl,ha0,hi0,hty0,c1,CL,LTN])) (by first | exact jd (Nat.le_refl _) | (simp only [TT,Ic.t,ci,reduceEqDiff,reduceIte,reduceAdd,reduceMul,reduceLT,reduceLeDiff,reduceSub,reduceCtorEq,reduceEq,reduceNe,reduceToNat,Int.reduceLT,reduceLE,reduceNeg,hl,ha0,hi0,hty0,c1,CL,LTN]))
noncomputable def sm (p1 : ac) (p2 : Int) : Option (List Int) :=
 ke p1 >>= fun y1 =>
 if y1 = true then
  gw p2 p1.Arcs ((p1.Arcs.length : Nat) : Int) [] (0 : Int) >>= fun y4 =>
  some y4
 else
 some []
theorem zch1 (p1 : ac) (p2 : Int) (r : (List Int)) (h : sm p1 p2 = some r) (τ : TH) (o0 : Nat) (hl : τ.lock ≤ τ.next) (ha0 : τ.at o0 = some ⟨dq,[.int .i64 p2]⟩) (hi0 : o0 < τ.next) : Ru G kd [.agg [.str p1.ID,.sl (List.map af.tv p1.Parties),.sl (List.map aa.tv p1.Arcs),.sl (List.map (TV.int .i64) p1.Leaders),.sl (List.map TV.str p1.Locks),.int .i64 p1.Start,.int .i64 p1.Delta],.func im [] [.ptr o0 0]] τ (.sl (List.map (TV.int .i64) r)) τ := by
 refine kb fun K hK => ?_
 rw [cb zccu (Nat.le_of_ble_eq_true rfl)]
 unfold sm at h
 obtain ⟨y1,hy1,h⟩ := ob h
 have k2 := sf p1 _ hy1
 try simp only [CL,MC,reduceToNat] at k2
 by_cases c3 : y1 = true
 · rw [if_pos c3] at h
   obtain ⟨y4,hy4,h⟩ := ob h
   simp only [gi,TT,Ic.t,ci,reduceEqDiff,reduceIte,reduceAdd,reduceLT,reduceCtorEq,reduceToNat,hl,ha0,hi0,k2,c3,CL,LTN]
   have Sy4 := zct1 p2 p1.Arcs ((p1.Arcs.length : Nat) : Int) [] (0 : Int) y4 hy4
   unfold lg at Sy4
   refine Sy4 _ o0 0 0 (by first | rfl | simp [aq]) (by first | exact Or.inl rfl | exact Or.inr rfl | assumption | simp) (by first | assumption | omega | (simp only [ag,ak,ah,ay]; omega)) (by simp only [TT,Ic.t,ci,reduceEqDiff,reduceIte,reduceAdd,reduceLT,reduceCtorEq,reduceToNat,hl,ha0,hi0,k2,c3,CL,LTN]) (by first | assumption | omega | (simp only [ag,ak,ah,ay]; omega)) _ ?_
   intro frq5 tkq5 τq5 u0q5 uh0q5 g5q5 htq5 hcq5
   have hcq5 := eu (n := τ.next + 1) hcq5 (by first | omega | (simp only [ag,ak]; omega))
   try simp only [List.take_succ_cons,List.take_zero,List.take_nil,CL] at htq5
   try simp only [TT,Ic.t,ci,reduceEqDiff,reduceIte,reduceAdd,reduceLT,reduceCtorEq,reduceToNat,hl,ha0,hi0,k2,c3,CL,LTN] at hcq5
   injection h with h; subst h
   simp only [gi,TT,Ic.t,ci,reduceEqDiff,reduceIte,reduceAdd,reduceLT,reduceCtorEq,reduceToNat,hl,ha0,hi0,k2,c3,uh0q5,g5q5,htq5,hcq5,CL,LTN]
   first | exact hK | (simp only [hl,ha0,hi0,k2,c3,uh0q5,g5q5,htq5,hcq5,CL] at hK; exact hK)
 rw [if_neg c3] at h
 have c3 := Bool.eq_false_iff.2 c3
 injection h with h; subst h
 simp only [gi,TT,Ic.t,ci,reduceEqDiff,reduceIte,reduceAdd,reduceLT,reduceCtorEq,reduceToNat,hl,ha0,hi0,k2,c3,CL,LTN]
 first | exact hK | (simp only [hl,ha0,hi0,k2,c3,CL] at hK; exact hK)
theorem zcs2 (p1 : ac) (p2 : Int) (r : (List Int)) (h : sm p1 p2 = some r) (lk : Bool) (d : Option Nat) (K : ap) (fr : TF) (tk : TK) (τ : TH) (o0 : Nat) (hl : τ.lock ≤ τ.next) (ha0 : τ.at o0 = some ⟨dq,[.int .i64 p2]⟩) (hi0 : o0 < τ.next) : fj G lk kd [.agg [.str p1.ID,.sl (List.map af.tv p1.Parties),.sl (List.map aa.tv p1.Arcs),.sl (List.map (TV.int .i64) p1.Leaders),.sl (List.map TV.str p1.Locks),.int .i64 p1.Start,.int .i64 p1.Delta],.func im [] [.ptr o0 0]] d K fr tk τ = K (eo fr d (.sl (List.map (TV.int .i64) r))) tk τ :=
 av (zch1 p1 p2 r h τ o0 hl ha0 hi0) (zch1 p1 p2 r h (τ.locked τ.next) o0 (Nat.le_refl _) (by rw [za4o]; exact ha0) hi0) (by simp only [TT,Ic.t,ci,reduceEqDiff,reduceIte,reduceAdd,reduceLT,reduceCtorEq,reduceToNat,hl,ha0,hi0,CL,LTN])
noncomputable def qx (p1 : ac) (p2 : Int) : Option (List Int) :=
 sm p1 p2 >>= fun y1 =>
 some y1
theorem zcf1 (p1 : ac) (p2 : Int) (r : (List Int)) (h : qx p1 p2 = some r) (τ : TH) (hl : τ.lock ≤ τ.next) : Ru G rb [.agg [.str p1.ID,.sl (List.map af.tv p1.Parties),.sl (List.map aa.tv p1.Arcs),.sl (List.map (TV.int .i64) p1.Leaders),.sl (List.map TV.str p1.Locks),.int .i64 p1.Start,.int .i64 p1.Delta],.int .i64 p2] τ (.sl (List.map (TV.int .i64) r)) τ := by
 refine kb fun K hK => ?_
 rw [cb zcq8 (Nat.le_of_ble_eq_true rfl)]
 unfold qx at h
 obtain ⟨y1,hy1,h⟩ := ob h
 have k2 := zcs2 p1 p2 _ hy1
 try simp only [CL,MC,reduceToNat] at k2
 injection h with h; subst h
 simp only [zcrh,TT,Ic.t,ci,reduceEqDiff,reduceIte,reduceAdd,reduceLT,reduceCtorEq,reduceToNat,hl,k2,CL,LTN]
 exact hK
theorem zcso (p1 : ac) (p2 : Int) (r : (List Int)) (h : qx p1 p2 = some r) (lk : Bool) (d : Option Nat) (K : ap) (fr : TF) (tk : TK) (τ : TH) (hl : τ.lock ≤ τ.next) : fj G lk rb [.agg [.str p1.ID,.sl (List.map af.tv p1.Parties),.sl (List.map aa.tv p1.Arcs),.sl (List.map (TV.int .i64) p1.Leaders),.sl (List.map TV.str p1.Locks),.int .i64 p1.Start,.int .i64 p1.Delta],.int .i64 p2] d K fr tk τ = K (eo fr d (.sl (List.map (TV.int .i64) r))) tk τ :=
 av (zcf1 p1 p2 r h τ  hl) (zcf1 p1 p2 r h (τ.locked τ.next)  (Nat.le_refl _) ) (by simp only [TT,Ic.t,ci,reduceEqDiff,reduceIte,reduceAdd,reduceLT,reduceCtorEq,reduceToNat,hl,CL,LTN])
noncomputable def ms  : Option Bool :=
 xj (3 : Int) (5 : Int) (6 : Int) >>= fun y1 =>
 dy y1 >>= fun y3 =>
 if y3 = true then
  qd y1 [(0 : Int),(1 : Int),(2 : Int)] >>= fun y6 =>
  if y6 = true then
   qd y1 [(0 : Int),(2 : Int)] >>= fun y9 =>
   if y9 = true then
    some false
   else
   qy y1 (0 : Int) >>= fun y12 =>
   if ((y12.length : Nat) : Int) = (1 : Int) then
    qx y1 (0 : Int) >>= fun y15 =>
    if ((y15.length : Nat) : Int) = (1 : Int) then
     dy (⟨(⟨#[]⟩ : ByteArray),[],[],[],[],(0 : Int),(0 : Int)⟩ : ac) >>= fun y18 =>
     some (!y18)
    else
    some false
   else
   some false
  else
  some false
 else
 some false
theorem zcb2  (r : Bool) (h : ms  = some r) (τ : TH) (hl : τ.lock ≤ τ.next) : Ru G xn [] τ (.bool r) τ := by
 refine kb fun K hK => ?_
 rw [cb zcu6 (Nat.le_of_ble_eq_true rfl)]
 unfold ms at h
 obtain ⟨y1,hy1,h⟩ := ob h
 have k2 := zcal (3 : Int) (5 : Int) (6 : Int) _ hy1
 try simp only [CL,MC,reduceToNat] at k2
 obtain ⟨y3,hy3,h⟩ := ob h
 have k4 := nf y1 _ hy3
 try simp only [CL,MC,reduceToNat] at k4
 by_cases c5 : y3 = true
 · rw [if_pos c5] at h
   obtain ⟨y6,hy6,h⟩ := ob h
   have k7 := zcem y1 [(0 : Int),(1 : Int),(2 : Int)] _ hy6
   try simp only [CL,MC,reduceToNat] at k7
   by_cases c8 : y6 = true
   · rw [if_pos c8] at h
     obtain ⟨y9,hy9,h⟩ := ob h
     have k10 := zcem y1 [(0 : Int),(2 : Int)] _ hy9
     try simp only [CL,MC,reduceToNat] at k10
     by_cases c11 : y9 = true
     · rw [if_pos c11] at h
       injection h with h; subst h
       simp only [xh,TT,Ic.t,ci,reduceEqDiff,reduceIte,reduceAdd,reduceLT,reduceCtorEq,reduceToNat,hl,k2,k4,c5,k7,c8,k10,c11,CL,LTN]
       first | exact hK | (simp only [hl,k2,k4,c5,k7,c8,k10,c11,CL] at hK; exact hK)
     rw [if_neg c11] at h
     have c11 := Bool.eq_false_iff.2 c11
     obtain ⟨y12,hy12,h⟩ := ob h
     have k13 := zcsn y1 (0 : Int) _ hy12
     try simp only [CL,MC,reduceToNat] at k13
     by_cases c14 : ((y12.length : Nat) : Int) = (1 : Int)
     · rw [if_pos c14] at h
       obtain ⟨y15,hy15,h⟩ := ob h
       have k16 := zcso y1 (0 : Int) _ hy15
       try simp only [CL,MC,reduceToNat] at k16
       by_cases c17 : ((y15.length : Nat) : Int) = (1 : Int)
       · rw [if_pos c17] at h
         obtain ⟨y18,hy18,h⟩ := ob h
         have k19 := nf (⟨(⟨#[]⟩ : ByteArray),[],[],[],[],(0 : Int),(0 : Int)⟩ : ac) _ hy18
         try simp only [CL,MC,reduceToNat] at k19
         injection h with h; subst h
         simp only [xh,TT,Ic.t,ci,reduceEqDiff,reduceIte,reduceAdd,reduceLT,reduceCtorEq,reduceToNat,hl,k2,k4,c5,k7,c8,k10,c11,k13,eq_true c14,k16,eq_true c17,k19,CL,LTN]
         first | exact hK | (simp only [hl,k2,k4,c5,k7,c8,k10,c11,k13,eq_true c14,k16,eq_true c17,k19,CL] at hK; exact hK)
       rw [if_neg c17] at h
       injection h with h; subst h
       simp only [xh,TT,Ic.t,ci,reduceEqDiff,reduceIte,reduceAdd,reduceLT,reduceCtorEq,reduceToNat,hl,k2,k4,c5,k7,c8,k10,c11,k13,eq_true c14,k16,c17,CL,LTN]
       first | exact hK | (simp only [hl,k2,k4,c5,k7,c8,k10,c11,k13,eq_true c14,k16,c17,CL] at hK; exact hK)
     rw [if_neg c14] at h
     injection h with h; subst h
     simp only [xh,TT,Ic.t,ci,reduceEqDiff,reduceIte,reduceAdd,reduceLT,reduceCtorEq,reduceToNat,hl,k2,k4,c5,k7,c8,k10,c11,k13,c14,CL,LTN]
     first | exact hK | (simp only [hl,k2,k4,c5,k7,c8,k10,c11,k13,c14,CL] at hK; exact hK)
   rw [if_neg c8] at h
   have c8 := Bool.eq_false_iff.2 c8
   injection h with h; subst h
   simp only [xh,TT,Ic.t,ci,reduceEqDiff,reduceIte,reduceAdd,reduceLT,reduceCtorEq,reduceToNat,hl,k2,k4,c5,k7,c8,CL,LTN]
   first | exact hK | (simp only [hl,k2,k4,c5,k7,c8,CL] at hK; exact hK)
 rw [if_neg c5] at h
 have c5 := Bool.eq_false_iff.2 c5
 injection h with h; subst h
 simp only [xh,TT,Ic.t,ci,reduceEqDiff,reduceIte,reduceAdd,reduceLT,reduceCtorEq,reduceToNat,hl,k2,k4,c5,CL,LTN]
 first | exact hK | (simp only [hl,k2,k4,c5,CL] at hK; exact hK)
theorem vv  (r : Bool) (h : ms  = some r) (lk : Bool) (d : Option Nat) (K : ap) (fr : TF) (tk : TK) (τ : TH) (hl : τ.lock ≤ τ.next) : fj G lk xn [] d K fr tk τ = K (eo fr d (.bool r)) tk τ :=
 av (zcb2  r h τ  hl) (zcb2  r h (τ.locked τ.next)  (Nat.le_refl _) ) (by simp only [TT,Ic.t,ci,reduceEqDiff,reduceIte,reduceAdd,reduceLT,reduceCtorEq,reduceToNat,hl,CL,LTN])
noncomputable def oi (p1 : Int) : Option Bool :=
 xj (4 : Int) (5 : Int) (6 : Int) >>= fun y1 =>
 xk p1 (4 : Int) >>= fun y3 =>
 if y3 = (0 : Int) then
  eg [(0 : Int),(1 : Int),(1 : Int),(0 : Int),(2 : Int),(3 : Int),(3 : Int),(2 : Int)] y1 >>= fun y6 =>
  dl (⟨y6.1,y6.2.1,y6.2.2.1,y6.2.2.2.1,y6.2.2.2.2.1,y6.2.2.2.2.2.1,y6.2.2.2.2.2.2⟩ : ac) >>= fun y8 =>
  if (y8 == (decide (y3 = (3 : Int)))) = true then
   dy (⟨y6.1,y6.2.1,y6.2.2.1,y6.2.2.2.1,y6.2.2.2.2.1,y6.2.2.2.2.2.1,y6.2.2.2.2.2.2⟩ : ac) >>= fun y11 =>
   if (y11 == (decide (y3 = (3 : Int)))) = true then
    cg (⟨y6.1,y6.2.1,y6.2.2.1,y6.2.2.2.1,y6.2.2.2.2.1,y6.2.2.2.2.2.1,y6.2.2.2.2.2.2⟩ : ac) >>= fun y14 =>
    if y3 = (1 : Int) then
     if (y14 == true) = true then
      ms >>= fun y18 =>
      some y18
     else
     some false
    else
    if (y14 == (decide (y3 = (3 : Int)))) = true then
     ms >>= fun y21 =>
     some y21
    else
    some false
   else
   some false
  else
  some false
 else
 if y3 = (1 : Int) then
  eg [(0 : Int),(1 : Int),(1 : Int),(2 : Int),(2 : Int),(0 : Int)] y1 >>= fun y24 =>
  dl (⟨y24.1,y24.2.1,y24.2.2.1,y24.2.2.2.1,y24.2.2.2.2.1,y24.2.2.2.2.2.1,y24.2.2.2.2.2.2⟩ : ac) >>= fun y26 =>
  if (y26 == (decide (y3 = (3 : Int)))) = true then
   dy (⟨y24.1,y24.2.1,y24.2.2.1,y24.2.2.2.1,y24.2.2.2.2.1,y24.2.2.2.2.2.1,y24.2.2.2.2.2.2⟩ : ac) >>= fun y29 =>
   if (y29 == (decide (y3 = (3 : Int)))) = true then
    cg (⟨y24.1,y24.2.1,y24.2.2.1,y24.2.2.2.1,y24.2.2.2.2.1,y24.2.2.2.2.2.1,y24.2.2.2.2.2.2⟩ : ac) >>= fun y32 =>
    if (y32 == true) = true then
     ms >>= fun y35 =>
     some y35
    else
    some false
   else
   some false
  else
  some false
 else
 if y3 = (2 : Int) then
  eg [(0 : Int),(1 : Int),(1 : Int),(2 : Int),(2 : Int),(3 : Int),(3 : Int),(1 : Int)] y1 >>= fun y38 =>
  dl (⟨y38.1,y38.2.1,y38.2.2.1,y38.2.2.2.1,y38.2.2.2.2.1,y38.2.2.2.2.2.1,y38.2.2.2.2.2.2⟩ : ac) >>= fun y40 =>
  if (y40 == (decide (y3 = (3 : Int)))) = true then
   dy (⟨y38.1,y38.2.1,y38.2.2.1,y38.2.2.2.1,y38.2.2.2.2.1,y38.2.2.2.2.2.1,y38.2.2.2.2.2.2⟩ : ac) >>= fun y43 =>
   if (y43 == (decide (y3 = (3 : Int)))) = true then
    cg (⟨y38.1,y38.2.1,y38.2.2.1,y38.2.2.2.1,y38.2.2.2.2.1,y38.2.2.2.2.2.1,y38.2.2.2.2.2.2⟩ : ac) >>= fun y46 =>
    if (y46 == (decide (y3 = (3 : Int)))) = true then
     ms >>= fun y49 =>
     some y49
    else
    some false
   else
   some false
  else
  some false
 else
 eg [(0 : Int),(1 : Int),(1 : Int),(2 : Int),(2 : Int),(3 : Int),(3 : Int),(0 : Int),(2 : Int),(0 : Int)] y1 >>= fun y51 =>
 dl (⟨y51.1,y51.2.1,y51.2.2.1,y51.2.2.2.1,y51.2.2.2.2.1,y51.2.2.2.2.2.1,y51.2.2.2.2.2.2⟩ : ac) >>= fun y53 =>
 if (y53 == (decide (y3 = (3 : Int)))) = true then
  dy (⟨y51.1,y51.2.1,y51.2.2.1,y51.2.2.2.1,y51.2.2.2.2.1,y51.2.2.2.2.2.1,y51.2.2.2.2.2.2⟩ : ac) >>= fun y56 =>
  if (y56 == (decide (y3 = (3 : Int)))) = true then
   cg (⟨y51.1,y51.2.1,y51.2.2.1,y51.2.2.2.1,y51.2.2.2.2.1,y51.2.2.2.2.2.1,y51.2.2.2.2.2.2⟩ : ac) >>= fun y59 =>
   if (y59 == (decide (y3 = (3 : Int)))) = true then
    ms >>= fun y62 =>
    some y62
   else
   some false
  else
  some false
 else
 some false
theorem vx (p1 : Int) (r : Bool) (h : oi p1 = some r) (τ : TH) (hl : τ.lock ≤ τ.next) : Ru G l9 [.int .i64 p1] τ (.bool r) τ := by
 refine kb fun K hK => ?_
 rw [cb zcsv (Nat.le_of_ble_eq_true rfl)]
 unfold oi at h
 obtain ⟨y1,hy1,h⟩ := ob h
 have k2 := zcal (4 : Int) (5 : Int) (6 : Int) _ hy1
 try simp only [CL,MC,reduceToNat] at k2
 obtain ⟨y3,hy3,h⟩ := ob h
 have k4 := zcrc p1 (4 : Int) _ hy3
 try simp only [CL,MC,reduceToNat] at k4
 by_cases c5 : y3 = (0 : Int)
 · rw [if_pos c5] at h
   obtain ⟨y6,hy6,h⟩ := ob h
   have k7 := mz [(0 : Int),(1 : Int),(1 : Int),(0 : Int),(2 : Int),(3 : Int),(3 : Int),(2 : Int)] y1 _ hy6
   try simp only [CL,MC,reduceToNat] at k7
   obtain ⟨y8,hy8,h⟩ := ob h
   have k9 := oh (⟨y6.1,y6.2.1,y6.2.2.1,y6.2.2.2.1,y6.2.2.2.2.1,y6.2.2.2.2.2.1,y6.2.2.2.2.2.2⟩ : ac) _ hy8
   try simp only [CL,MC,reduceToNat] at k9
   by_cases c10 : (y8 == (decide (y3 = (3 : Int)))) = true
   · rw [if_pos c10] at h
     obtain ⟨y11,hy11,h⟩ := ob h
     have k12 := nf (⟨y6.1,y6.2.1,y6.2.2.1,y6.2.2.2.1,y6.2.2.2.2.1,y6.2.2.2.2.2.1,y6.2.2.2.2.2.2⟩ : ac) _ hy11
     try simp only [CL,MC,reduceToNat] at k12
     by_cases c13 : (y11 == (decide (y3 = (3 : Int)))) = true
     · rw [if_pos c13] at h
       obtain ⟨y14,hy14,h⟩ := ob h
       have k15 := mf (⟨y6.1,y6.2.1,y6.2.2.1,y6.2.2.2.1,y6.2.2.2.2.1,y6.2.2.2.2.2.1,y6.2.2.2.2.2.2⟩ : ac) _ hy14
       try simp only [CL,MC,reduceToNat] at k15
       by_cases c16 : y3 = (1 : Int)
       · rw [if_pos c16] at h
         by_cases c17 : (y14 == true) = true
         · rw [if_pos c17] at h
           obtain ⟨y18,hy18,h⟩ := ob h
           have k19 := vv  _ hy18
           try simp only [CL,MC,reduceToNat] at k19
           injection h with h; subst h
           simp only [ba,TT,Ic.t,ci,reduceEqDiff,reduceIte,reduceAdd,reduceLT,reduceCtorEq,reduceToNat,OC,hl,k2,k4,eq_true c5,k7,k9,c10,k12,c13,k15,eq_true c16,c17,k19,CL,LTN]
           exact hK
         rw [if_neg c17] at h
         have c17 := Bool.eq_false_iff.2 c17
         injection h with h; subst h
         simp only [ba,TT,Ic.t,ci,reduceEqDiff,reduceIte,reduceAdd,reduceLT,reduceCtorEq,reduceToNat,OC,hl,k2,k4,eq_true c5,k7,k9,c10,k12,c13,k15,eq_true c16,c17,CL,LTN]
         exact hK
       rw [if_neg c16] at h
       by_cases c20 : (y14 == (decide (y3 = (3 : Int)))) = true
       · rw [if_pos c20] at h
         obtain ⟨y21,hy21,h⟩ := ob h
         have k22 := vv  _ hy21
         try simp only [CL,MC,reduceToNat] at k22
         injection h with h; subst h
         simp only [ba,TT,Ic.t,ci,reduceEqDiff,reduceIte,reduceAdd,reduceLT,reduceCtorEq,reduceToNat,OC,hl,k2,k4,eq_true c5,k7,k9,c10,k12,c13,k15,c16,c20,k22,CL,LTN]
         exact hK
       rw [if_neg c20] at h
       have c20 := Bool.eq_false_iff.2 c20
       injection h with h; subst h
       simp only [ba,TT,Ic.t,ci,reduceEqDiff,reduceIte,reduceAdd,reduceLT,reduceCtorEq,reduceToNat,OC,hl,k2,k4,eq_true c5,k7,k9,c10,k12,c13,k15,c16,c20,CL,LTN]
       exact hK
     rw [if_neg c13] at h
     have c13 := Bool.eq_false_iff.2 c13
     injection h with h; subst h
     simp only [ba,TT,Ic.t,ci,reduceEqDiff,reduceIte,reduceAdd,reduceLT,reduceCtorEq,reduceToNat,OC,hl,k2,k4,eq_true c5,k7,k9,c10,k12,c13,CL,LTN]
     exact hK
   rw [if_neg c10] at h
   have c10 := Bool.eq_false_iff.2 c10
   injection h with h; subst h
   simp only [ba,TT,Ic.t,ci,reduceEqDiff,reduceIte,reduceAdd,reduceLT,reduceCtorEq,reduceToNat,OC,hl,k2,k4,eq_true c5,k7,k9,c10,CL,LTN]
   exact hK
 rw [if_neg c5] at h
 by_cases c23 : y3 = (1 : Int)
 · rw [if_pos c23] at h
   obtain ⟨y24,hy24,h⟩ := ob h
   have k25 := mz [(0 : Int),(1 : Int),(1 : Int),(2 : Int),(2 : Int),(0 : Int)] y1 _ hy24
   try simp only [CL,MC,reduceToNat] at k25
   obtain ⟨y26,hy26,h⟩ := ob h
   have k27 := oh (⟨y24.1,y24.2.1,y24.2.2.1,y24.2.2.2.1,y24.2.2.2.2.1,y24.2.2.2.2.2.1,y24.2.2.2.2.2.2⟩ : ac) _ hy26
   try simp only [CL,MC,reduceToNat] at k27
   by_cases c28 : (y26 == (decide (y3 = (3 : Int)))) = true
   · rw [if_pos c28] at h
     obtain ⟨y29,hy29,h⟩ := ob h
     have k30 := nf (⟨y24.1,y24.2.1,y24.2.2.1,y24.2.2.2.1,y24.2.2.2.2.1,y24.2.2.2.2.2.1,y24.2.2.2.2.2.2⟩ : ac) _ hy29
     try simp only [CL,MC,reduceToNat] at k30
     by_cases c31 : (y29 == (decide (y3 = (3 : Int)))) = true
     · rw [if_pos c31] at h
       obtain ⟨y32,hy32,h⟩ := ob h
       have k33 := mf (⟨y24.1,y24.2.1,y24.2.2.1,y24.2.2.2.1,y24.2.2.2.2.1,y24.2.2.2.2.2.1,y24.2.2.2.2.2.2⟩ : ac) _ hy32
       try simp only [CL,MC,reduceToNat] at k33
       by_cases c34 : (y32 == true) = true
       · rw [if_pos c34] at h
         obtain ⟨y35,hy35,h⟩ := ob h
         have k36 := vv  _ hy35
         try simp only [CL,MC,reduceToNat] at k36
         injection h with h; subst h
         simp only [ba,TT,Ic.t,ci,reduceEqDiff,reduceIte,reduceAdd,reduceLT,reduceCtorEq,reduceToNat,OC,hl,k2,k4,c5,eq_true c23,k25,k27,c28,k30,c31,k33,c34,k36,CL,LTN]
         exact hK
       rw [if_neg c34] at h
       have c34 := Bool.eq_false_iff.2 c34
       injection h with h; subst h
       simp only [ba,TT,Ic.t,ci,reduceEqDiff,reduceIte,reduceAdd,reduceLT,reduceCtorEq,reduceToNat,OC,hl,k2,k4,c5,eq_true c23,k25,k27,c28,k30,c31,k33,c34,CL,LTN]
       exact hK
     rw [if_neg c31] at h
     have c31 := Bool.eq_false_iff.2 c31
     injection h with h; subst h
     simp only [ba,TT,Ic.t,ci,reduceEqDiff,reduceIte,reduceAdd,reduceLT,reduceCtorEq,reduceToNat,OC,hl,k2,k4,c5,eq_true c23,k25,k27,c28,k30,c31,CL,LTN]
     exact hK
   rw [if_neg c28] at h
   have c28 := Bool.eq_false_iff.2 c28
   injection h with h; subst h
   simp only [ba,TT,Ic.t,ci,reduceEqDiff,reduceIte,reduceAdd,reduceLT,reduceCtorEq,reduceToNat,OC,hl,k2,k4,c5,eq_true c23,k25,k27,c28,CL,LTN]
   exact hK
 rw [if_neg c23] at h
 by_cases c37 : y3 = (2 : Int)
 · rw [if_pos c37] at h
   obtain ⟨y38,hy38,h⟩ := ob h
   have k39 := mz [(0 : Int),(1 : Int),(1 : Int),(2 : Int),(2 : Int),(3 : Int),(3 : Int),(1 : Int)] y1 _ hy38
   try simp only [CL,MC,reduceToNat] at k39
   obtain ⟨y40,hy40,h⟩ := ob h
   have k41 := oh (⟨y38.1,y38.2.1,y38.2.2.1,y38.2.2.2.1,y38.2.2.2.2.1,y38.2.2.2.2.2.1,y38.2.2.2.2.2.2⟩ : ac) _ hy40
   try simp only [CL,MC,reduceToNat] at k41
   by_cases c42 : (y40 == (decide (y3 = (3 : Int)))) = true
   · rw [if_pos c42] at h
     obtain ⟨y43,hy43,h⟩ := ob h
     have k44 := nf (⟨y38.1,y38.2.1,y38.2.2.1,y38.2.2.2.1,y38.2.2.2.2.1,y38.2.2.2.2.2.1,y38.2.2.2.2.2.2⟩ : ac) _ hy43
     try simp only [CL,MC,reduceToNat] at k44
     by_cases c45 : (y43 == (decide (y3 = (3 : Int)))) = true
     · rw [if_pos c45] at h
       obtain ⟨y46,hy46,h⟩ := ob h
       have k47 := mf (⟨y38.1,y38.2.1,y38.2.2.1,y38.2.2.2.1,y38.2.2.2.2.1,y38.2.2.2.2.2.1,y38.2.2.2.2.2.2⟩ : ac) _ hy46
       try simp only [CL,MC,reduceToNat] at k47
       by_cases c48 : (y46 == (decide (y3 = (3 : Int)))) = true
       · rw [if_pos c48] at h
         obtain ⟨y49,hy49,h⟩ := ob h
         have k50 := vv  _ hy49
         try simp only [CL,MC,reduceToNat] at k50
         injection h with h; subst h
         simp only [ba,TT,Ic.t,ci,reduceEqDiff,reduceIte,reduceAdd,reduceLT,reduceCtorEq,reduceToNat,OC,hl,k2,k4,c5,c23,eq_true c37,k39,k41,c42,k44,c45,k47,c48,k50,CL,LTN]
         exact hK
       rw [if_neg c48] at h
       have c48 := Bool.eq_false_iff.2 c48
       injection h with h; subst h
       simp only [ba,TT,Ic.t,ci,reduceEqDiff,reduceIte,reduceAdd,reduceLT,reduceCtorEq,reduceToNat,OC,hl,k2,k4,c5,c23,eq_true c37,k39,k41,c42,k44,c45,k47,c48,CL,LTN]
       exact hK
     rw [if_neg c45] at h
     have c45 := Bool.eq_false_iff.2 c45
     injection h with h; subst h
     simp only [ba,TT,Ic.t,ci,reduceEqDiff,reduceIte,reduceAdd,reduceLT,reduceCtorEq,reduceToNat,OC,hl,k2,k4,c5,c23,eq_true c37,k39,k41,c42,k44,c45,CL,LTN]
     exact hK
   rw [if_neg c42] at h
   have c42 := Bool.eq_false_iff.2 c42
   injection h with h; subst h
   simp only [ba,TT,Ic.t,ci,reduceEqDiff,reduceIte,reduceAdd,reduceLT,reduceCtorEq,reduceToNat,OC,hl,k2,k4,c5,c23,eq_true c37,k39,k41,c42,CL,LTN]
   exact hK
 rw [if_neg c37] at h
 obtain ⟨y51,hy51,h⟩ := ob h
 have k52 := mz [(0 : Int),(1 : Int),(1 : Int),(2 : Int),(2 : Int),(3 : Int),(3 : Int),(0 : Int),(2 : Int),(0 : Int)] y1 _ hy51
 try simp only [CL,MC,reduceToNat] at k52
 obtain ⟨y53,hy53,h⟩ := ob h
 have k54 := oh (⟨y51.1,y51.2.1,y51.2.2.1,y51.2.2.2.1,y51.2.2.2.2.1,y51.2.2.2.2.2.1,y51.2.2.2.2.2.2⟩ : ac) _ hy53
 try simp only [CL,MC,reduceToNat] at k54
 by_cases c55 : (y53 == (decide (y3 = (3 : Int)))) = true
 · rw [if_pos c55] at h
   obtain ⟨y56,hy56,h⟩ := ob h
   have k57 := nf (⟨y51.1,y51.2.1,y51.2.2.1,y51.2.2.2.1,y51.2.2.2.2.1,y51.2.2.2.2.2.1,y51.2.2.2.2.2.2⟩ : ac) _ hy56
   try simp only [CL,MC,reduceToNat] at k57
   by_cases c58 : (y56 == (decide (y3 = (3 : Int)))) = true
   · rw [if_pos c58] at h
     obtain ⟨y59,hy59,h⟩ := ob h
     have k60 := mf (⟨y51.1,y51.2.1,y51.2.2.1,y51.2.2.2.1,y51.2.2.2.2.1,y51.2.2.2.2.2.1,y51.2.2.2.2.2.2⟩ : ac) _ hy59
     try simp only [CL,MC,reduceToNat] at k60
     by_cases c61 : (y59 == (decide (y3 = (3 : Int)))) = true
     · rw [if_pos c61] at h
       obtain ⟨y62,hy62,h⟩ := ob h
       have k63 := vv  _ hy62
       try simp only [CL,MC,reduceToNat] at k63
       injection h with h; subst h
       simp only [ba,TT,Ic.t,ci,reduceEqDiff,reduceIte,reduceAdd,reduceLT,reduceCtorEq,reduceToNat,OC,hl,k2,k4,c5,c23,c37,k52,k54,c55,k57,c58,k60,c61,k63,CL,LTN]
       exact hK
     rw [if_neg c61] at h
     have c61 := Bool.eq_false_iff.2 c61
     injection h with h; subst h
     simp only [ba,TT,Ic.t,ci,reduceEqDiff,reduceIte,reduceAdd,reduceLT,reduceCtorEq,reduceToNat,OC,hl,k2,k4,c5,c23,c37,k52,k54,c55,k57,c58,k60,c61,CL,LTN]
     exact hK
   rw [if_neg c58] at h
   have c58 := Bool.eq_false_iff.2 c58
   injection h with h; subst h
   simp only [ba,TT,Ic.t,ci,reduceEqDiff,reduceIte,reduceAdd,reduceLT,reduceCtorEq,reduceToNat,OC,hl,k2,k4,c5,c23,c37,k52,k54,c55,k57,c58,CL,LTN]
   exact hK
 rw [if_neg c55] at h
 have c55 := Bool.eq_false_iff.2 c55
 injection h with h; subst h
 simp only [ba,TT,Ic.t,ci,reduceEqDiff,reduceIte,reduceAdd,reduceLT,reduceCtorEq,reduceToNat,OC,hl,k2,k4,c5,c23,c37,k52,k54,c55,CL,LTN]
 exact hK
end Go.Proofs.Ytdcfoaafkppojaa

namespace Go.Proofs.Ytdcfoaafkppojaa
open Go Go.RowKit Sh Ic
abbrev W := BitVec 32
theorem obz {α β : Type} {a : α} {f : α → Option β} : (some a >>= f) = f a := by generalize h : f a = x; exact h
theorem w64 {n : Int} (h1 : -9223372036854775808 ≤ n) (h2 : n < 9223372036854775808) : IntKind.i64.wrap n = n := by
 simp [IntKind.wrap,IntKind.bits,IntKind.signed,IntKind.max]; omega
theorem zb31 (n : Int) : IntKind.u32.wrap n = n % 4294967296 := by simp [IntKind.wrap,IntKind.bits,IntKind.signed]
theorem zbuy (n : Nat) (h : n < 4294967296) : IntKind.u32.wrap (n : Int) = (n : Int) := by rw [zb31]; omega
theorem zbqw (a : W) : BitVec.ofInt 32 (a.toNat : Int) = a := by
 rw [BitVec.ofInt_natCast,BitVec.ofNat_toNat,BitVec.setWidth_eq]
theorem zbvo (a : W) : a.toNat < 4294967296 := a.isLt
theorem zcpt (a b : W) : IntKind.u32.wrap ((BitVec.ofInt IntKind.u32.bits (a.toNat : Int) ||| BitVec.ofInt IntKind.u32.bits (b.toNat : Int)).toNat : Int) = ((a ||| b).toNat : Int) := by
 show IntKind.u32.wrap ((BitVec.ofInt 32 (a.toNat : Int) ||| BitVec.ofInt 32 (b.toNat : Int)).toNat : Int) = _
 rw [zbqw,zbqw,zbuy _ (zbvo _)]
theorem zb34 (a b : W) : IntKind.u32.wrap ((BitVec.ofInt IntKind.u32.bits (a.toNat : Int) &&& BitVec.ofInt IntKind.u32.bits (b.toNat : Int)).toNat : Int) = ((a &&& b).toNat : Int) := by
 show IntKind.u32.wrap ((BitVec.ofInt 32 (a.toNat : Int) &&& BitVec.ofInt 32 (b.toNat : Int)).toNat : Int) = _
 rw [zbqw,zbqw,zbuy _ (zbvo _)]
theorem zbvl (a b : W) : IntKind.u32.wrap ((BitVec.ofInt IntKind.u32.bits (a.toNat : Int) ^^^ BitVec.ofInt IntKind.u32.bits (b.toNat : Int)).toNat : Int) = ((a ^^^ b).toNat : Int) := by
 show IntKind.u32.wrap ((BitVec.ofInt 32 (a.toNat : Int) ^^^ BitVec.ofInt 32 (b.toNat : Int)).toNat : Int) = _
 rw [zbqw,zbqw,zbuy _ (zbvo _)]
theorem zb33 (a : W) : zb4b .u32 (a.toNat : Int) = ((~~~a).toNat : Int) := by
 show IntKind.u32.wrap ((BitVec.ofInt 32 4294967295 ^^^ BitVec.ofInt 32 (a.toNat : Int)).toNat : Int) = _
 rw [zbqw,show BitVec.ofInt 32 4294967295 = BitVec.allOnes 32 from by decide,BitVec.allOnes_xor,zbuy _ (zbvo _)]
theorem zbrk (a b : W) : IntKind.u32.wrap ((a.toNat : Int) + (b.toNat : Int)) = ((a + b).toNat : Int) := by
 rw [zb31,BitVec.toNat_add]; omega
theorem zbvm (a : W) (k : Nat) : (a.toNat : Int).fdiv (2 ^ k) = ((a >>> k).toNat : Int) := by
 rw [Int.fdiv_eq_ediv_of_nonneg _ (by exact Int.le_of_lt (Int.pow_pos (by decide))),BitVec.toNat_ushiftRight,Nat.shiftRight_eq_div_pow,Int.natCast_ediv,Int.natCast_pow]
 rfl
theorem zbvn (a : W) (k : Nat) : IntKind.u32.wrap ((a.toNat : Int) * 2 ^ k) = ((a <<< k).toNat : Int) := by
 rw [zb31,BitVec.toNat_shiftLeft,Nat.shiftLeft_eq,Int.natCast_emod,Int.natCast_mul,Int.natCast_pow]
 rfl
def zbfy (x : W) (n : Nat) : W := x >>> n ||| x <<< (32 - n)
theorem zblc (x : W) (n : Nat) (z : Int) (hz : z = (n : Int)) (hn : n ≤ 32) : i9 (x.toNat : Int) z = some ((zbfy x n).toNat : Int) := by
 subst hz
 have c1 : ¬ (n : Int) < 0 := by omega
 have w1 : IntKind.u64.wrap (32 - (n : Int)) = ((32 - n : Nat) : Int) := by
  have : IntKind.u64.wrap (32 - (n : Int)) = (32 - (n : Int)) % 18446744073709551616 := by simp [IntKind.wrap,IntKind.bits,IntKind.signed]
  omega
 have c2 : ¬ ((32 - n : Nat) : Int) < 0 := by omega
 have e1 : Nat.min n IntKind.u32.bits = n := Nat.min_eq_left hn
 have e2 : Nat.min (32 - n) IntKind.u32.bits = 32 - n := Nat.min_eq_left (Nat.sub_le _ _)
 unfold i9
 simp only [obz,c1,w1,c2,Int.toNat_natCast,e1,e2,zbvm,zbvn,zcpt,not_false_eq_true,if_true]
 rfl
def wl (ws : List W) : List Int := ws.map fun a => (a.toNat : Int)
theorem zbnh (ws : List W) : (wl ws).length = ws.length := List.length_map ..
theorem xv (ws : List W) (j : Nat) (z : Int) (hz : z = (j : Int)) (h : j < ws.length) : ixL (wl ws) z = some ((ws.getD j 0).toNat : Int) := by
 subst hz
 rw [ot (by rw [zbnh]; exact h)]
 simp only [wl,List.getElem_map,List.getD_eq_getElem?_getD,List.getElem?_eq_getElem h,Option.getD_some]
theorem zbed (ws : List W) (j : Nat) (x : W) : (wl ws).set j (x.toNat : Int) = wl (ws.set j x) := by rw [wl,wl,List.map_set]
def bt (s : ByteArray) (i : Nat) : W := BitVec.ofNat 32 (s.data.getD i 0).toNat
def be4 (s : ByteArray) (i : Nat) : W := bt s (4 * i) <<< 24 ||| bt s (4 * i + 1) <<< 16 ||| bt s (4 * i + 2) <<< 8 ||| bt s (4 * i + 3)
theorem zbxc (s : ByteArray) (i : Nat) : (bt s i).toNat = (s.data.getD i 0).toNat := by
 unfold bt; rw [BitVec.toNat_ofNat]; have := (s.data.getD i 0).toNat_lt; omega
theorem zbs8 (s : ByteArray) (i : Nat) : IntKind.u32.wrap ((bt s i).toNat : Int) = ((bt s i).toNat : Int) := zbuy _ (zbvo _)
theorem zbzj (s : ByteArray) (i : Nat) (z : Int) (hz : z = (i : Int)) (h : i < s.size) : ixB s z = some ((bt s i).toNat : Int) := by
 subst hz
 unfold ixB
 rw [if_pos (by omega),Int.toNat_natCast,zbxc]
def fill (s : ByteArray) : Nat → Nat → List W → List W
 | _,0,ws => ws
 | i,n + 1,ws => fill s (i + 1) n (ws.set i (be4 s i))
def zcwg (x : W) : W := zbfy x 7 ^^^ zbfy x 18 ^^^ x >>> 3
def zcwf (x : W) : W := zbfy x 17 ^^^ zbfy x 19 ^^^ x >>> 10
def zb4c (ws : List W) (i : Nat) : W := ws.getD (i - 16) 0 + zcwg (ws.getD (i - 15) 0) + ws.getD (i - 7) 0 + zcwf (ws.getD (i - 2) 0)
def zbft : Nat → Nat → List W → List W
 | _,0,ws => ws
 | i,n + 1,ws => zbft (i + 1) n (ws.set i (zb4c ws i))
structure V8 where
 a : W
 b : W
 c : W
 d : W
 e : W
 f : W
 g : W
 h : W
def V8.t1 (v : V8) (k w : W) : W := v.h + (zbfy v.e 6 ^^^ zbfy v.e 11 ^^^ zbfy v.e 25) + (v.e &&& v.f ^^^ ~~~v.e &&& v.g) + k + w
def V8.t2 (v : V8) : W := (zbfy v.a 2 ^^^ zbfy v.a 13 ^^^ zbfy v.a 22) + (v.a &&& v.b ^^^ v.a &&& v.c ^^^ v.b &&& v.c)
def V8.rnd (v : V8) (k w : W) : V8 := ⟨v.t1 k w + v.t2,v.a,v.b,v.c,v.d + v.t1 k w,v.e,v.f,v.g⟩
def zbzw (ks ws : List W) : Nat → Nat → V8 → V8
 | _,0,v => v
 | i,n + 1,v => zbzw ks ws (i + 1) n (v.rnd (ks.getD i 0) (ws.getD i 0))
def V8.list (v : V8) : List W := [v.a,v.b,v.c,v.d,v.e,v.f,v.g,v.h]
def zbkh (vs : List W) : Nat → Nat → List W → List W
 | _,0,hs => hs
 | i,n + 1,hs => zbkh vs (i + 1) n (hs.set i (hs.getD i 0 + vs.getD i 0))
def zbuf : List W := [0x428a2f98,0x71374491,0xb5c0fbcf,0xe9b5dba5,0x3956c25b,0x59f111f1,0x923f82a4,0xab1c5ed5,0xd807aa98,0x12835b01,0x243185be,0x550c7dc3,0x72be5d74,0x80deb1fe,0x9bdc06a7,0xc19bf174,0xe49b69c1,0xefbe4786,0x0fc19dc6,0x240ca1cc,0x2de92c6f,0x4a7484aa,0x5cb0a9dc,0x76f988da,0x983e5152,0xa831c66d,0xb00327c8,0xbf597fc7,0xc6e00bf3,0xd5a79147,0x06ca6351,0x14292967,0x27b70a85,0x2e1b2138,0x4d2c6dfc,0x53380d13,0x650a7354,0x766a0abb,0x81c2c92e,0x92722c85,0xa2bfe8a1,0xa81a664b,0xc24b8b70,0xc76c51a3,0xd192e819,0xd6990624,0xf40e3585,0x106aa070,0x19a4c116,0x1e376c08,0x2748774c,0x34b0bcb5,0x391c0cb3,0x4ed8aa4a,0x5b9cca4f,0x682e6ff3,0x748f82ee,0x78a5636f,0x84c87814,0x8cc70208,0x90befffa,0xa4506ceb,0xbef9a3f7,0xc67178f2]
theorem zbm7 : zbuf.length = 64 := rfl
theorem zbru : zbvb = some (wl zbuf) := rfl
def V8.ofL (l : List W) : V8 := ⟨l.getD 0 0,l.getD 1 0,l.getD 2 0,l.getD 3 0,l.getD 4 0,l.getD 5 0,l.getD 6 0,l.getD 7 0⟩
def zbzs : List W := List.replicate 64 0
def zbec (s : ByteArray) : List W := zbft 16 48 (fill s 0 16 zbzs)
def zblp (hs : List W) (s : ByteArray) : List W := zbkh (zbzw zbuf (zbec s) 0 64 (V8.ofL hs)).list 0 8 hs
theorem zcjd (s : ByteArray) (n : Nat) : ∀ i ws,(fill s i n ws).length = ws.length := by
 induction n with
 | zero => intro i ws; rfl
 | succ n ih => intro i ws; rw [fill,ih,List.length_set]
theorem zbfs (n : Nat) : ∀ i ws,(zbft i n ws).length = ws.length := by
 induction n with
 | zero => intro i ws; rfl
 | succ n ih => intro i ws; rw [zbft,ih,List.length_set]
theorem zbkg (vs : List W) (n : Nat) : ∀ i ws,(zbkh vs i n ws).length = ws.length := by
 induction n with
 | zero => intro i ws; rfl
 | succ n ih => intro i ws; rw [zbkh,ih,List.length_set]
theorem zbeb (s : ByteArray) : (zbec s).length = 64 := by
 unfold zbec; rw [zbfs,zcjd]; rfl
theorem zby7 (hs : List W) (s : ByteArray) (h : hs.length = 8) : (zblp hs s).length = 8 := by
 unfold zblp; rw [zbkg,h]
theorem zb4n (l : List W) (h : l.length = 8) : ∃ a b c d e f g i : W,l = [a,b,c,d,e,f,g,i] := by
 match l,h with
 | [a,b,c,d,e,f,g,i],_ => exact ⟨a,b,c,d,e,f,g,i,rfl⟩
theorem m24 : Nat.min 24 IntKind.u32.bits = 24 := rfl
theorem m16 : Nat.min 16 IntKind.u32.bits = 16 := rfl
theorem m8 : Nat.min 8 IntKind.u32.bits = 8 := rfl
theorem m3 : Nat.min 3 IntKind.u32.bits = 3 := rfl
theorem m10 : Nat.min 10 IntKind.u32.bits = 10 := rfl
theorem zi (i : Nat) (h : i < 1000000000000) : IntKind.i64.wrap ((i : Int) + 1) = ((i + 1 : Nat) : Int) := by rw [w64 (by omega) (by omega)]; omega
theorem zbmw (i k : Nat) (z : Int) (hz : z = (k : Int)) (h : i < 1000000000000) (hk : k ≤ i) : IntKind.i64.wrap ((i : Int) - z) = ((i - k : Nat) : Int) := by rw [hz,w64 (by omega) (by omega)]; omega
theorem zbw6 (i : Nat) (h : i < 1000000000000) : IntKind.i64.wrap (4 * (i : Int)) = ((4 * i : Nat) : Int) := by rw [w64 (by omega) (by omega)]; omega
theorem zbzp (i : Nat) (k : Nat) (z : Int) (hz : z = (k : Int)) (h : i < 1000000000000) (hk : k < 1000) : IntKind.i64.wrap ((i : Int) + z) = ((i + k : Nat) : Int) := by rw [hz,w64 (by omega) (by omega)]; omega
theorem zbsn (i : Nat) (h : i < 64) : (0 ≤ (i : Int) ∧ (i : Int) < ((64 : Nat) : Int)) = True := eq_true ⟨by omega,by omega⟩
theorem in8 (i : Nat) (h : i < 8) : (0 ≤ (i : Int) ∧ (i : Int) < ((8 : Nat) : Int)) = True := eq_true ⟨by omega,by omega⟩
theorem zb4u (s : ByteArray) (hs : s.size = 64) (x y z : List Int) (n : Nat) : ∀ (i : Nat) (ws : List W),n + i = 16 → ws.length = 64 → su s x y z (wl ws) (i : Int) = some (wl (fill s i n ws)) := by
 induction n with
 | zero =>
  intro i ws hi hl
  obtain rfl : i = 16 := by omega
  rw [zch4]
  rfl
 | succ n ih =>
  intro i ws hi hl
  have c : (i : Int) < 16 := by omega
  have cl : (i : Nat) + 1 ≤ (wl ws).length := by rw [zbnh]; omega
  rw [zch4,gr]
  rw [zbw6 i (by omega),zbzp _ 1 1 rfl (by omega) (by omega),zbzp _ 2 2 rfl (by omega) (by omega),zbzp _ 3 3 rfl (by omega) (by omega)]
  rw [zbzj s (4 * i) _ rfl (by omega),zbzj s (4 * i + 1) _ rfl (by omega),zbzj s (4 * i + 2) _ rfl (by omega),zbzj s (4 * i + 3) _ rfl (by omega)]
  simp only [obz,zbs8,m24,m16,m8,zbvn,zcpt,c,zbsn i (by omega),Int.toNat_natCast,cl,if_true,zbed,zi i (by omega),LS.go]
  exact ih (i + 1) _ (by omega) (by rw [List.length_set,hl])
theorem zb4t (x y z : List Int) (n : Nat) : ∀ (i : Nat) (ws : List W),n + i = 64 → 16 ≤ i → ws.length = 64 → ss x y z (wl ws) (i : Int) = some (wl (zbft i n ws)) := by
 induction n with
 | zero =>
  intro i ws hi h16 hl
  obtain rfl : i = 64 := by omega
  rw [zch5]
  rfl
 | succ n ih =>
  intro i ws hi h16 hl
  have c : (i : Int) < 64 := by omega
  have cl : (i : Nat) + 1 ≤ (wl ws).length := by rw [zbnh]; omega
  rw [zch5,gq]
  rw [zbmw i 15 15 rfl (by omega) (by omega),zbmw i 2 2 rfl (by omega) (by omega),zbmw i 16 16 rfl (by omega) (by omega),zbmw i 7 7 rfl (by omega) (by omega)]
  rw [xv ws (i - 15) _ rfl (by omega),xv ws (i - 2) _ rfl (by omega),xv ws (i - 16) _ rfl (by omega),xv ws (i - 7) _ rfl (by omega)]
  simp only [obz,zblc _ 7 7 rfl (by decide),zblc _ 18 18 rfl (by decide),zblc _ 17 17 rfl (by decide),zblc _ 19 19 rfl (by decide),m3,m10,zbvm,zbvl,zbrk,c,zbsn i (by omega),zbsn (i - 15) (by omega),zbsn (i - 2) (by omega),zbsn (i - 16) (by omega),zbsn (i - 7) (by omega),Int.toNat_natCast,cl,if_true,zbed,zi i (by omega),LS.go]
  exact ih (i + 1) _ (by omega) (by omega) (by rw [List.length_set,hl])
theorem zb4s (x y : List Int) (ks ws : List W) (hk : ks.length = 64) (hw : ws.length = 64) (n : Nat) : ∀ (i : Nat) (v : V8),n + i = 64 → sr x y (wl ws) (wl ks) (wl v.list) (i : Int) = some (wl (zbzw ks ws i n v).list) := by
 induction n with
 | zero =>
  intro i ws hi
  obtain rfl : i = 64 := by omega
  rw [zch6]
  rfl
 | succ n ih =>
  intro i v hi
  have c : (i : Int) < 64 := by omega
  rw [zch6,gp]
  rw [xv ks i _ rfl (by omega),xv ws i _ rfl (by omega),xv v.list 0 0 rfl (show 0 < 8 by decide),xv v.list 1 1 rfl (show 1 < 8 by decide),xv v.list 2 2 rfl (show 2 < 8 by decide),xv v.list 3 3 rfl (show 3 < 8 by decide),xv v.list 4 4 rfl (show 4 < 8 by decide),xv v.list 5 5 rfl (show 5 < 8 by decide),xv v.list 6 6 rfl (show 6 < 8 by decide),xv v.list 7 7 rfl (show 7 < 8 by decide)]
  have l8 : (wl v.list).length = 8 := rfl
  simp only [obz,zblc _ 6 6 rfl (by decide),zblc _ 11 11 rfl (by decide),zblc _ 25 25 rfl (by decide),zblc _ 2 2 rfl (by decide),zblc _ 13 13 rfl (by decide),zblc _ 22 22 rfl (by decide),zbvl,zbrk,zb34,zb33,c,zbsn i (by omega),l8,if_true,zi i (by omega),LS.go]
  exact ih (i + 1) (v.rnd (ks.getD i 0) (ws.getD i 0)) (by omega)
theorem zb4r (x : List Int) (vs : List W) (hv : vs.length = 8) (n : Nat) : ∀ (i : Nat) (hs : List W),n + i = 8 → hs.length = 8 → sq x (wl vs) (wl hs) (i : Int) = some (wl (zbkh vs i n hs)) := by
 induction n with
 | zero =>
  intro i ws hi hl
  obtain rfl : i = 8 := by omega
  rw [zch7]
  rfl
 | succ n ih =>
  intro i hs hi hl
  have c : (i : Int) < 8 := by omega
  have cl : (i : Nat) + 1 ≤ (wl hs).length := by rw [zbnh]; omega
  rw [zch7,gn]
  rw [xv hs i _ rfl (by omega),xv vs i _ rfl (by omega)]
  simp only [obz,zbrk,c,in8 i (by omega),Int.toNat_natCast,cl,if_true,zbed,zi i (by omega),LS.go]
  exact ih (i + 1) _ (by omega) (by rw [List.length_set,hl])
theorem zbqu : (List.replicate 64 (0 : Int)) = wl zbzs := rfl
theorem zbmd (hs : List W) (h : hs.length = 8) : (V8.ofL hs).list = hs := by
 obtain ⟨a,b,c,d,e,f,g,i,rfl⟩ := zb4n hs h
 rfl
theorem zbs9 (hs : List W) (s : ByteArray) (hl : hs.length = 8) (h : s.size = 64) : xi (wl hs) s = some (wl (zblp hs s)) := by
 have l8 : (wl hs).length = 8 := by rw [zbnh,hl]
 have l64 : (wl zbuf).length = 64 := rfl
 have lb : (wl (zblp hs s)).length = 8 := by rw [zbnh,zby7 _ _ hl]
 unfold xi
 rw [zbru,zbqu]
 have e1 := fun x y z => zb4u s h x y z 16 0 zbzs rfl rfl
 have e2 := fun x y z => zb4t x y z 48 16 (fill s 0 16 zbzs) rfl (Nat.le_refl _) (by rw [zcjd]; rfl)
 have e3 := fun x y => zb4s x y zbuf (zbec s) zbm7 (zbeb s) 64 0 (V8.ofL hs) rfl
 have e4 := fun x => zb4r x (zbzw zbuf (zbec s) 0 64 (V8.ofL hs)).list rfl 8 0 hs rfl hl
 rw [zbmd hs hl] at e3
 simp only [obz,l64,l8,if_true]
 refine (congrArg (· >>= _) (e1 _ _ _)).trans ?_
 refine (congrArg (· >>= _) (e2 _ _ _)).trans ?_
 refine (congrArg (· >>= _) (e3 _ _)).trans ?_
 refine (congrArg (· >>= _) (e4 _)).trans ?_
 show (if (wl (zblp hs s)).length = 8 then if (wl (zblp hs s)).length = 8 then some (wl (zblp hs s)) else none else none) = _
 rw [if_pos lb,if_pos lb]
def V8.tup (v : V8) : Int × Int × Int × Int × Int × Int × Int × Int := ((v.a.toNat : Int),(v.b.toNat : Int),(v.c.toNat : Int),(v.d.toNat : Int),(v.e.toNat : Int),(v.f.toNat : Int),(v.g.toNat : Int),(v.h.toNat : Int))
theorem z8 (l : List Int) : (zakz l).size = l.length := by
 show (zakz l).data.size = _
 simp [zakz]
theorem zcuq (l : List Int) (a k : Nat) : (zakz l).extract a (a + k) = zakz ((l.drop a).take k) := by
 apply ByteArray.ext
 apply Array.toList_inj.1
 rw [ByteArray.data_extract,Array.toList_extract,List.extract_eq_take_drop,Nat.add_sub_cancel_left]
 show List.take k (List.drop a (l.map fun n => UInt8.ofNat n.toNat)) = ((l.drop a).take k).map fun n => UInt8.ofNat n.toNat
 rw [List.map_take,List.map_drop]
theorem zb68 (n k : Nat) (z : Int) (hz : z = (k : Int)) : Int.tmod (n : Int) z = ((n % k : Nat) : Int) := by subst hz; rfl
theorem zbwj (x : ByteArray) (k : Nat) : ∀ l : List Int,(l.length + k) % 64 = 56 → k < 64 → l.length + k < 100000000000 → qm x l = some (l ++ List.replicate k 0) := by
 induction k with
 | zero =>
  intro l h hk hb
  rw [zcfw,g7,zb68 _ 64 64 rfl,if_pos (by omega),List.replicate_zero,List.append_nil]
  rfl
 | succ k ih =>
  intro l h hk hb
  rw [zcfw,g7,zb68 _ 64 64 rfl,if_neg (by omega),if_pos (by omega)]
  rw [obz,LS.go]
  have e := ih (l ++ [0]) (by rw [List.length_append]; show (l.length + 1 + k) % 64 = 56; omega) (by omega) (by rw [List.length_append]; show l.length + 1 + k < _; omega)
  rw [List.append_assoc] at e
  exact e
def sh8 (L : Int) (i : Nat) : Int := IntKind.u8.wrap (Int.fdiv L (2 ^ (56 - 8 * i)))
def lb (L : Int) : Nat → Nat → List Int
 | _,0 => []
 | i,n + 1 => sh8 L i :: lb L (i + 1) n
theorem w56 (i : Nat) (h : i < 8) : IntKind.i64.wrap ((56 : Int) - (IntKind.i64.wrap ((8 : Int) * (i : Int)))) = ((56 - 8 * i : Nat) : Int) := by
 rw [w64 (n := 8 * (i : Int)) (by omega) (by omega),w64 (by omega) (by omega)]; omega
theorem zcwe (n : Nat) (h : n < 1000) : IntKind.u64.wrap (n : Int) = (n : Int) := by
 have : IntKind.u64.wrap (n : Int) = (n : Int) % 18446744073709551616 := by simp [IntKind.wrap,IntKind.bits,IntKind.signed]
 omega
theorem zb4e (n : Nat) (h : n ≤ 64) : Nat.min n IntKind.u64.bits = n := Nat.min_eq_left h
theorem zbwt (L : Int) (n : Nat) : ∀ (i : Nat) (l : List Int),n + i = 8 → l.length < 900000000000 + i → ql L l (i : Int) = some (l ++ lb L i n) := by
 induction n with
 | zero =>
  intro i l hi hb
  obtain rfl : i = 8 := by omega
  rw [zcfx,gz,if_neg (by decide),lb,List.append_nil]
  rfl
 | succ n ih =>
  intro i l hi hb
  rw [zcfx,gz,if_pos (by omega),w56 i (by omega),zcwe _ (by omega),if_pos (by omega),Int.toNat_natCast,zb4e _ (by omega),if_pos (by omega),zi i (by omega)]
  rw [obz,LS.go]
  have e := ih (i + 1) (l ++ [sh8 L i]) (by omega) (by rw [List.length_append]; show l.length + 1 < _; omega)
  rw [List.append_assoc] at e
  exact e
def zbuk : Nat → List Int → List W → List W
 | 0,_,hs => hs
 | n + 1,m,hs => zbuk n (m.drop 64) (zblp hs (zakz (m.take 64)))
theorem zbdm (n : Nat) : ∀ (m : List Int) (hs : List W),hs.length = 8 → (zbuk n m hs).length = 8 := by
 induction n with
 | zero => intro m hs h; exact h
 | succ n ih => intro m hs h; exact ih _ _ (zby7 _ _ h)
theorem zbwa (m : List Int) (t : Nat) (hm : m.length = 64 * t) (ht : t < 1000000000) (n : Nat) : ∀ (j : Nat) (hs : List W),n + j = t → hs.length = 8 → qk (zakz m) (wl hs) ((64 * j : Nat) : Int) = some (wl (zbuk n (m.drop (64 * j)) hs)) := by
 induction n with
 | zero =>
  intro j hs hj hl
  rw [zcfy,gy,if_neg (by rw [z8]; omega)]
  rfl
 | succ n ih =>
  intro j hs hj hl
  rw [zcfy,gy,if_pos (by rw [z8]; omega),if_pos (by rw [zbnh]; exact hl),zbzp _ 64 64 rfl (by omega) (by omega)]
  rw [if_pos ⟨⟨by omega,by rw [z8]; omega⟩,by omega,by omega⟩,Int.toNat_natCast,Int.toNat_natCast,zcuq,zbs9 hs _ hl (by rw [z8,List.length_take,List.length_drop]; omega)]
  rw [obz,if_pos (by rw [zbnh,zby7 _ _ hl]),obz,LS.go]
  have e := ih (j + 1) (zblp hs (zakz ((m.drop (64 * j)).take 64))) (by omega) (zby7 _ _ hl)
  rw [show 64 * (j + 1) = 64 * j + 64 from by omega,← List.drop_drop] at e
  exact e
def o4 (y : Int) : List Int := [(IntKind.u8.wrap (Int.fdiv y (2 ^ (Nat.min 24 IntKind.u32.bits)))),(IntKind.u8.wrap (Int.fdiv y (2 ^ (Nat.min 16 IntKind.u32.bits)))),(IntKind.u8.wrap (Int.fdiv y (2 ^ (Nat.min 8 IntKind.u32.bits)))),(IntKind.u8.wrap y)]
def zbua (hs : List W) : Nat → Nat → List Int
 | _,0 => []
 | i,n + 1 => o4 ((hs.getD i 0).toNat : Int) ++ zbua hs (i + 1) n
theorem zbma (hs : List W) (n : Nat) : ∀ i,(zbua hs i n).length = 4 * n := by
 induction n with
 | zero => intro i; rfl
 | succ n ih => intro i; rw [zbua,List.length_append,ih]; show 4 + 4 * n = _; omega
theorem zbwk (hs : List W) (hl : hs.length = 8) (n : Nat) : ∀ (i : Nat) (l : List Int),n + i = 8 → l.length ≤ 100 + 4 * i → qj (wl hs) l (i : Int) = some (l ++ zbua hs i n) := by
 induction n with
 | zero =>
  intro i l hi hb
  obtain rfl : i = 8 := by omega
  rw [zcfz,gx,if_neg (by decide),zbua,List.append_nil]
  rfl
 | succ n ih =>
  intro i l hi hb
  rw [zcfz,gx,if_pos (by omega),if_pos ⟨by omega,by omega⟩,xv hs i _ rfl (by omega)]
  rw [obz,if_pos (by omega),zi i (by omega),obz,LS.go]
  have e := ih (i + 1) (l ++ o4 ((hs.getD i 0).toNat : Int)) (by omega) (by rw [List.length_append]; show l.length + 4 ≤ _; omega)
  rw [List.append_assoc] at e
  exact e
def H0 : List W := [1779033703,3144134277,1013904242,2773480762,1359893119,2600822924,528734635,1541459225]
def kz (n : Nat) : Nat := (120 - (n + 1) % 64) % 64
def zbta (s : ByteArray) : Int := IntKind.u64.wrap ((IntKind.u64.wrap ((s.size : Nat) : Int)) * (8 : Int))
def zbzm (s : ByteArray) : List Int := ((vu s ++ [128]) ++ List.replicate (kz s.size) 0) ++ lb (zbta s) 0 8
def zbub (s : ByteArray) : Nat := (s.size + 1 + kz s.size + 8) / 64
def state (s : ByteArray) : List W := zbuk (zbub s) (zbzm s) H0
def SHA (s : ByteArray) : ByteArray := zakz (zbua (state s) 0 8)
theorem zbwu (L : Int) (n : Nat) : ∀ i,(lb L i n).length = n := by
 induction n with
 | zero => intro i; rfl
 | succ n ih => intro i; rw [lb,List.length_cons,ih]
theorem zbww (n : Nat) : (n + 1 + kz n) % 64 = 56 ∧ kz n < 64 := by unfold kz; omega
theorem zbcy (s : ByteArray) : (zbzm s).length = 64 * zbub s := by
 have := zbww s.size
 unfold zbzm zbub
 rw [List.length_append,List.length_append,List.length_append,zbwu,List.length_replicate,aq]
 show s.size + 1 + kz s.size + 8 = _
 omega
theorem zbfh (s : ByteArray) : (state s).length = 8 := zbdm _ _ _ rfl
theorem zb0d (s : ByteArray) : (SHA s).size = 32 := by rw [SHA,z8,zbma]
theorem zbom (s : ByteArray) (h : s.size < 10000000000) : zbra s = some (SHA s) := by
 have kk := zbww s.size
 have l1 : (vu s ++ [128]).length = s.size + 1 := by rw [List.length_append,aq]; rfl
 have e1 := zbwj s (kz s.size) (vu s ++ [128]) (by rw [l1]; exact kk.1) kk.2 (by omega)
 have e2 := zbwt (zbta s) 8 0 ((vu s ++ [128]) ++ List.replicate (kz s.size) 0) rfl (by rw [List.length_append,List.length_replicate]; omega)
 have e3 := zbwa (zbzm s) (zbub s) (zbcy s) (by unfold zbub; omega) (zbub s) 0 H0 rfl rfl
 have e4 := zbwk (state s) (zbfh s) 8 0 [] rfl (by show 0 ≤ _; omega)
 have be : (qm s (vu s ++ [128]) >>= fun y16 => ql (zbta s) y16 (0 : Int) >>= fun y18 => qk (zakz y18) (wl H0) (0 : Int) >>= fun y20 => qj y20 [] (0 : Int) >>= fun y22 => some (zakz y22)) = some (SHA s) := by
  refine (congrArg (· >>= _) e1).trans ?_
  refine (congrArg (· >>= _) e2).trans ?_
  refine (congrArg (· >>= _) e3).trans ?_
  refine (congrArg (· >>= _) e4).trans ?_
  rfl
 unfold zbra
 by_cases z : s.size = 0
 · rw [if_pos z]
   have b0 : vu s = [] := List.eq_nil_of_length_eq_zero (by rw [aq]; exact z)
   rw [b0] at be
   exact be
 · rw [if_neg z,if_pos (by omega)]
   exact be
def SH (s : ByteArray) : ByteArray := (SHA s).extract 0 16
theorem zblr (s : ByteArray) : (SH s).size = 16 := by unfold SH; rw [ByteArray.size_extract,zb0d]; rfl
theorem zbyk (s : ByteArray) (hs : s.size < 10000000000) : n4 s = some (SH s) := by
 unfold n4
 rw [zbom s hs,obz,if_pos ⟨by omega,by rw [zb0d]; omega⟩]; rfl
def SEC (j3 : ByteArray) (k i b : Int) : ByteArray := SH (j3 ++ zakz [IntKind.u8.wrap k,IntKind.u8.wrap i,IntKind.u8.wrap b])
def VAL (j3 : ByteArray) (k i b : Int) : ByteArray := if 0 ≤ k ∧ k ≤ 255 ∧ 0 ≤ i ∧ i < 16 ∧ 0 ≤ b ∧ b < 2 then SEC j3 k i b else ⟨#[]⟩
theorem zbnz (a b c : Int) : (zakz [a,b,c]).size = 3 := z8 _
theorem zbnp (j3 : ByteArray) (hs : j3.size < 100000) (k i b : Int) : uk j3 k i b = some (VAL j3 k i b) := by
 unfold uk VAL
 by_cases c0 : k < 0
 · rw [if_pos c0,if_neg (by omega)]
 · rw [if_neg c0]
   by_cases c1 : 255 < k
   · rw [if_pos c1,if_neg (by omega)]
   · rw [if_neg c1]
     by_cases c2 : i < 0
     · rw [if_pos c2,if_neg (by omega)]
     · rw [if_neg c2]
       by_cases c3 : 16 ≤ i
       · rw [if_pos c3,if_neg (by omega)]
       · rw [if_neg c3]
         by_cases c4 : b < 0
         · rw [if_pos c4,if_neg (by omega)]
         · rw [if_neg c4]
           by_cases c5 : 1 < b
           · rw [if_pos c5,if_neg (by omega)]
           · rw [if_neg c5,if_pos (by rw [zbnz]; omega),zbyk _ (by rw [ByteArray.size_append,zbnz]; omega),obz,if_pos (by omega)]; rfl
def cat (f : Nat → ByteArray) : Nat → Nat → ByteArray → ByteArray
 | _,0,acc => acc
 | i,n + 1,acc => cat f (i + 1) n (acc ++ f i)
theorem zbmy (f : Nat → ByteArray) (hf : ∀ i,i < 16 → (f i).size = 32) (n : Nat) : ∀ (i : Nat) (acc : ByteArray),n + i = 16 → (cat f i n acc).size = acc.size + 32 * n := by
 induction n with
 | zero => intro i acc h; rfl
 | succ n ih => intro i acc h; rw [cat,ih (i + 1) _ (by omega),ByteArray.size_append,hf i (by omega)]; omega
def isK (k : Int) : Prop := 0 ≤ k ∧ k ≤ 255
instance (k : Int) : Decidable (isK k) := inferInstanceAs (Decidable (0 ≤ k ∧ k ≤ 255))
theorem zbqf (j3 : ByteArray) (k i b : Int) : (VAL j3 k i b).size ≤ 16 := by
 unfold VAL
 split
 · exact Nat.le_of_eq (zblr _)
 · exact Nat.zero_le _
def zbwg (j3 : ByteArray) (k : Int) (i : Nat) : ByteArray := SH (VAL j3 k (i : Int) 0) ++ SH (VAL j3 k (i : Int) 1)
def PUB (j3 : ByteArray) (k : Int) : ByteArray := SH (cat (zbwg j3 k) 0 16 ⟨#[]⟩)
theorem zbg3 (j3 : ByteArray) (k : Int) (i : Nat) : (zbwg j3 k i).size = 32 := by unfold zbwg; rw [ByteArray.size_append,zblr,zblr]
theorem zbg4 (j3 : ByteArray) (k : Int) : (cat (zbwg j3 k) 0 16 ⟨#[]⟩).size = 512 := by rw [zbmy _ (fun i _ => zbg3 j3 k i) 16 0 _ rfl]; rfl
theorem zbwh (j3 : ByteArray) (hs : j3.size < 100000) (k : Int) (n : Nat) : ∀ (i : Nat) (acc : ByteArray),n + i = 16 → acc.size ≤ 32 * i → qi j3 k acc (i : Int) = some (cat (zbwg j3 k) i n acc) := by
 induction n with
 | zero =>
  intro i acc h ha
  rw [zcig,d6,if_neg (by omega)]
  rfl
 | succ n ih =>
  intro i acc h ha
  have v1 := zbqf j3 k (i : Int) 0
  have v2 := zbqf j3 k (i : Int) 1
  rw [zcig,d6,if_pos (by omega),zbnp j3 hs,obz,zbyk _ (by omega),obz,if_pos (by rw [zblr]; omega),zbnp j3 hs,obz,zbyk _ (by omega),obz,if_pos (by rw [zblr,ByteArray.size_append,zblr]; omega),zi i (by omega),obz,LS.go,ByteArray.append_assoc]
  exact ih (i + 1) _ (by omega) (by rw [ByteArray.size_append,ByteArray.size_append,zblr,zblr]; omega)
theorem zbwi (j3 : ByteArray) (hs : j3.size < 100000) (k : Int) : u9 j3 k = some (if isK k then PUB j3 k else ⟨#[]⟩) := by
 unfold u9
 by_cases c0 : k < 0
 · rw [if_pos c0,if_neg (by unfold isK; omega)]
 · rw [if_neg c0]
   by_cases c1 : 255 < k
   · rw [if_pos c1,if_neg (by unfold isK; omega)]
   · have c : isK k := ⟨by omega,by omega⟩
     rw [if_neg c1,if_pos c]
     refine (congrArg (fun x => (x >>= _)) (zbwh j3 hs k 16 0 ⟨#[]⟩ rfl (Nat.zero_le _))).trans ?_
     rw [obz,zbyk _ (by rw [zbg4]; decide)]
     rfl
end Go.Proofs.Ytdcfoaafkppojaa
