import Derived.Test.YtdcfoaafkppojaaD1
set_option linter.unusedVariables false
set_option linter.unusedSimpArgs false
set_option linter.unusedSectionVars false
open Nat (reduceEqDiff reduceAdd reduceMul reduceLT reduceLeDiff reduceSub)
open Int (reduceToNat reduceNe reduceEq reduceNeg reduceLE)
namespace Go.Proofs.Ytdcfoaafkppojaa
open Go Go.RowKit Sh Ic
noncomputable section
def gz (v0 : ByteArray) (v1 : (List Int)) : Option (LS ((List Int)) ((List Int))) :=
 if (Int.tmod ((v1.length : Nat) : Int) (64 : Int)) = (56 : Int) then
  some (.dn v1)
 else
 if v1.length ≤ 140737488355327 then
  some (.nx (v1 ++ [(0 : Int)]))
 else
  none
def qk (v0 : ByteArray) (v1 : (List Int)) : Option ((List Int)) := qb (fun st => gz v0 st) v1
theorem zceb (v0 : ByteArray) (v1 : (List Int)) : qk v0 v1 = gz v0 v1 >>= LS.go (fun st => qk v0 st) := ig (fun st => gz v0 st) v1
def tf (v0 : ByteArray) (v1 : (List Int)) (r : (List Int)) : Prop := ∀ (τ : TH) (n0 : Nat) (ty0 : TypeId) (hnn0 : n0 = v1.length) (hty0 : n0 = 0 ∨ ty0 = m5) (hl : τ.lock ≤ τ.next) (Q : TEx → aq) (hQ0 : ∀ (fr : TF) (tk2 : TK) (τ2 : TH),∀ (u0 : TypeId),(r.length = 0 ∨ u0 = m5) → lkp fr 0 = .str v0 → lkp fr 3 = .sla 0 (List.map (TV.int .u8) r) → tk2.take 1 = [some (r.length,u0)] → τ2.cut τ.next = τ → Q (.exit 0) fr tk2 τ2) ,tW G (.loop [0,3] zbx1) Q [(0,.str v0),(3,.sla 0 (List.map (TV.int .u8) v1))] [some (n0,ty0)] τ
theorem zcc3 (v0 : ByteArray) (v1 : (List Int)) (r : (List Int)) (h : qk v0 v1 = some r) : tf v0 v1 r := by
 refine fh (f := fun st => gz v0 st) (P := fun st r => ∀ (v1 : (List Int)),v1 = st → tf v0 v1 r) ?_ h v1 rfl
 clear h r v1
 intro st o h r ih v1 hst τ  n0 ty0 hnn0 hty0 hl Q hQ0
 subst hst
 have h : gz v0 v1 = some o := h
 unfold gz at h
 subst hnn0
 refine nv fun LQ hn hr he => ?_
 by_cases c1 : (Int.tmod ((v1.length : Nat) : Int) (64 : Int)) = (56 : Int)
 · rw [if_pos c1] at h
   injection h with h; subst h
   obtain rfl : _ = r := ih
   simp only [zbx1,i8,TT,Ic.t,ci,reduceEqDiff,reduceIte,reduceAdd,reduceMul,reduceLT,reduceLeDiff,reduceSub,reduceCtorEq,reduceEq,reduceNe,reduceToNat,Int.reduceLT,reduceLE,reduceNeg,hl,hty0,he,hr,eq_true c1,CL,LTN]
   exact hQ0  _ _ _ ty0 (by first | exact hty0 | exact Or.inr rfl | assumption | simp) (by first | rfl | (simp only [TT,Ic.t,ci,reduceEqDiff,reduceIte,reduceAdd,reduceMul,reduceLT,reduceLeDiff,reduceSub,reduceCtorEq,reduceEq,reduceNe,reduceToNat,Int.reduceLT,reduceLE,reduceNeg,hl,hty0,eq_true c1,CL,LTN])) (by first | rfl | (simp only [TT,Ic.t,ci,reduceEqDiff,reduceIte,reduceAdd,reduceMul,reduceLT,reduceLeDiff,reduceSub,reduceCtorEq,reduceEq,reduceNe,reduceToNat,Int.reduceLT,reduceLE,reduceNeg,hl,hty0,eq_true c1,CL,LTN])) (by first | rfl | (simp only [TT,Ic.t,ci,reduceEqDiff,reduceIte,reduceAdd,reduceMul,reduceLT,reduceLeDiff,reduceSub,reduceCtorEq,reduceEq,reduceNe,reduceToNat,Int.reduceLT,reduceLE,reduceNeg,hl,hty0,eq_true c1,CL,LTN])) (by first | exact jf (Nat.le_refl _) | (simp only [TT,Ic.t,ci,reduceEqDiff,reduceIte,reduceAdd,reduceMul,reduceLT,reduceLeDiff,reduceSub,reduceCtorEq,reduceEq,reduceNe,reduceToNat,Int.reduceLT,reduceLE,reduceNeg,hl,hty0,eq_true c1,CL,LTN]))
 rw [if_neg c1] at h
 obtain ⟨c2,h⟩ := ifS h
 have f3 : 1 ≤ maxLen := by unfold maxLen; omega
 have f4 : v1.length + 1 ≤ maxLen := by unfold maxLen; omega
 have f5 : ((List.map (TV.int .u8) v1).all fun e => e.cells.length == 1) = true := zbbh (fun _ => rfl) _
 have f6 : List.map (TV.int .u8) v1 ++ List.map (TV.int .u8) [(0 : Int)] = List.map (TV.int .u8) (v1 ++ [(0 : Int)]) := zbjb _ _
 try simp only [CL,List.map_cons,List.map_nil] at f6
 injection h with h; subst h
 have ih := ih (v1 ++ [(0 : Int)]) rfl
 unfold tf at ih
 simp only [zbx1,i8,TT,Ic.t,ci,reduceEqDiff,reduceIte,reduceAdd,reduceMul,reduceLT,reduceLeDiff,reduceSub,reduceCtorEq,reduceEq,reduceNe,reduceToNat,Int.reduceLT,reduceLE,reduceNeg,hl,hty0,c1,c2,f3,f4,f5,f6,CL,LTN]
 rw [hn]
 simp only [TT,Ic.t,ci,reduceEqDiff,reduceIte,reduceAdd,reduceMul,reduceLT,reduceLeDiff,reduceSub,reduceCtorEq,reduceEq,reduceNe,reduceToNat,Int.reduceLT,reduceLE,reduceNeg,hl,hty0,c1,c2,f3,f4,f5,f6,CL,LTN]
 exact ih  τ   (v1.length + 1) m5 (by first | rfl | simp [ar]) (by first | exact hty0 | exact Or.inr rfl | assumption | simp) (by first | assumption | (simp only [ag,ah]; assumption)) Q hQ0
def gy (v1 : Int) (v0 : (List Int)) (v2 : Int) : Option (LS ((List Int) × Int) ((List Int))) :=
 if v2 < (8 : Int) then
  if ¬ (IntKind.u64.wrap (IntKind.i64.wrap ((56 : Int) - (IntKind.i64.wrap ((8 : Int) * v2))))) < 0 then
   if v0.length ≤ 140737488355327 then
    some (.nx ((v0 ++ [(IntKind.u8.wrap (Int.fdiv v1 (2 ^ (Nat.min (IntKind.u64.wrap (IntKind.i64.wrap ((56 : Int) - (IntKind.i64.wrap ((8 : Int) * v2))))).toNat IntKind.u64.bits))))]),(IntKind.i64.wrap (v2 + (1 : Int)))))
   else
    none
  else
   none
 else
 some (.dn v0)
def qj (v1 : Int) (v0 : (List Int)) (v2 : Int) : Option ((List Int)) := qb (fun st => gy v1 st.1 st.2) (v0,v2)
theorem zcec (v1 : Int) (v0 : (List Int)) (v2 : Int) : qj v1 v0 v2 = gy v1 v0 v2 >>= LS.go (fun st => qj v1 st.1 st.2) := ig (fun st => gy v1 st.1 st.2) (v0,v2)
def te (v1 : Int) (v0 : (List Int)) (v2 : Int) (r : (List Int)) : Prop := ∀ (τ : TH) (n0 : Nat) (ty0 : TypeId) (hnn0 : n0 = v0.length) (hty0 : n0 = 0 ∨ ty0 = m5) (hl : τ.lock ≤ τ.next) (Q : TEx → aq) (hQ0 : ∀ (fr : TF) (tk2 : TK) (τ2 : TH),∀ (u0 : TypeId),(r.length = 0 ∨ u0 = m5) → lkp fr 3 = .sla 0 (List.map (TV.int .u8) r) → tk2.take 1 = [some (r.length,u0)] → τ2.cut τ.next = τ → Q (.exit 2) fr tk2 τ2) ,tW G (.loop [3,4,5] zbx2) Q [(3,.sla 0 (List.map (TV.int .u8) v0)),(4,.int .u64 v1),(5,.int .i64 v2)] [some (n0,ty0)] τ
theorem zcc4 (v1 : Int) (v0 : (List Int)) (v2 : Int) (r : (List Int)) (h : qj v1 v0 v2 = some r) : te v1 v0 v2 r := by
 refine fh (f := fun st => gy v1 st.1 st.2) (P := fun st r => ∀ (v0 : (List Int)) (v2 : Int),(v0,v2) = st → te v1 v0 v2 r) ?_ h v0 v2 rfl
 clear h r v2 v0
 intro st o h r ih v0 v2 hst τ  n0 ty0 hnn0 hty0 hl Q hQ0
 subst hst
 have h : gy v1 v0 v2 = some o := h
 unfold gy at h
 subst hnn0
 refine nv fun LQ hn hr he => ?_
 by_cases c1 : v2 < (8 : Int)
 · rw [if_pos c1] at h
   obtain ⟨c2,h⟩ := ifS h
   obtain ⟨c3,h⟩ := ifS h
   have f4 : 1 ≤ maxLen := by unfold maxLen; omega
   have f5 : v0.length + 1 ≤ maxLen := by unfold maxLen; omega
   have f6 : ((List.map (TV.int .u8) v0).all fun e => e.cells.length == 1) = true := zbbh (fun _ => rfl) _
   have f7 : List.map (TV.int .u8) v0 ++ List.map (TV.int .u8) [(IntKind.u8.wrap (Int.fdiv v1 (2 ^ (Nat.min (IntKind.u64.wrap (IntKind.i64.wrap ((56 : Int) - (IntKind.i64.wrap ((8 : Int) * v2))))).toNat IntKind.u64.bits))))] = List.map (TV.int .u8) (v0 ++ [(IntKind.u8.wrap (Int.fdiv v1 (2 ^ (Nat.min (IntKind.u64.wrap (IntKind.i64.wrap ((56 : Int) - (IntKind.i64.wrap ((8 : Int) * v2))))).toNat IntKind.u64.bits))))]) := zbjb _ _
   try simp only [CL,List.map_cons,List.map_nil] at f7
   injection h with h; subst h
   have ih := ih (v0 ++ [(IntKind.u8.wrap (Int.fdiv v1 (2 ^ (Nat.min (IntKind.u64.wrap (IntKind.i64.wrap ((56 : Int) - (IntKind.i64.wrap ((8 : Int) * v2))))).toNat IntKind.u64.bits))))]) (IntKind.i64.wrap (v2 + (1 : Int))) rfl
   unfold te at ih
   simp only [zbx2,i8,TT,Ic.t,ci,reduceEqDiff,reduceIte,reduceAdd,reduceMul,reduceLT,reduceLeDiff,reduceSub,reduceCtorEq,reduceEq,reduceNe,reduceToNat,Int.reduceLT,reduceLE,reduceNeg,hl,hty0,c1,c2,c3,f4,f5,f6,f7,CL,LTN]
   rw [hn]
   simp only [TT,Ic.t,ci,reduceEqDiff,reduceIte,reduceAdd,reduceMul,reduceLT,reduceLeDiff,reduceSub,reduceCtorEq,reduceEq,reduceNe,reduceToNat,Int.reduceLT,reduceLE,reduceNeg,hl,hty0,c1,c2,c3,f4,f5,f6,f7,CL,LTN]
   exact ih  τ   (v0.length + 1) m5 (by first | rfl | simp [ar]) (by first | exact hty0 | exact Or.inr rfl | assumption | simp) (by first | assumption | (simp only [ag,ah]; assumption)) Q hQ0
 rw [if_neg c1] at h
 injection h with h; subst h
 obtain rfl : _ = r := ih
 simp only [zbx2,i8,TT,Ic.t,ci,reduceEqDiff,reduceIte,reduceAdd,reduceMul,reduceLT,reduceLeDiff,reduceSub,reduceCtorEq,reduceEq,reduceNe,reduceToNat,Int.reduceLT,reduceLE,reduceNeg,hl,hty0,he,hr,c1,CL,LTN]
 exact hQ0  _ _ _ ty0 (by first | exact hty0 | exact Or.inr rfl | assumption | simp) (by first | rfl | (simp only [TT,Ic.t,ci,reduceEqDiff,reduceIte,reduceAdd,reduceMul,reduceLT,reduceLeDiff,reduceSub,reduceCtorEq,reduceEq,reduceNe,reduceToNat,Int.reduceLT,reduceLE,reduceNeg,hl,hty0,c1,CL,LTN])) (by first | rfl | (simp only [TT,Ic.t,ci,reduceEqDiff,reduceIte,reduceAdd,reduceMul,reduceLT,reduceLeDiff,reduceSub,reduceCtorEq,reduceEq,reduceNe,reduceToNat,Int.reduceLT,reduceLE,reduceNeg,hl,hty0,c1,CL,LTN])) (by first | exact jf (Nat.le_refl _) | (simp only [TT,Ic.t,ci,reduceEqDiff,reduceIte,reduceAdd,reduceMul,reduceLT,reduceLeDiff,reduceSub,reduceCtorEq,reduceEq,reduceNe,reduceToNat,Int.reduceLT,reduceLE,reduceNeg,hl,hty0,c1,CL,LTN]))
def gx (v0 : ByteArray) (v1 : (List Int)) (v2 : Int) : Option (LS ((List Int) × Int) ((List Int))) :=
 if v2 < ((v0.size : Nat) : Int) then
  if v1.length = 8 then
   if (0 ≤ (IntKind.i64.wrap (v2 + (64 : Int))) ∧ (IntKind.i64.wrap (v2 + (64 : Int))) ≤ (v0.size : Int)) ∧ 0 ≤ v2 ∧ v2 ≤ (IntKind.i64.wrap (v2 + (64 : Int))) then
    xd v1 (v0.extract v2.toNat ((IntKind.i64.wrap (v2 + (64 : Int))).toNat)) >>= fun y6 =>
    if y6.length = 8 then
     some (.nx (y6,(IntKind.i64.wrap (v2 + (64 : Int)))))
    else
     none
   else
    none
  else
   none
 else
 some (.dn v1)
def qi (v0 : ByteArray) (v1 : (List Int)) (v2 : Int) : Option ((List Int)) := qb (fun st => gx v0 st.1 st.2) (v1,v2)
theorem zced (v0 : ByteArray) (v1 : (List Int)) (v2 : Int) : qi v0 v1 v2 = gx v0 v1 v2 >>= LS.go (fun st => qi v0 st.1 st.2) := ig (fun st => gx v0 st.1 st.2) (v1,v2)
def td (v0 : ByteArray) (v1 : (List Int)) (v2 : Int) (r : (List Int)) : Prop := ∀ (τ : TH) (o0 : Nat) (e0 : Option (Nat × TypeId)) (hl : τ.lock ≤ τ.next) (ha0 : τ.at o0 = some ⟨dx,List.map (TV.int .u32) v1⟩) (hi0 : o0 < τ.next) (hw0 : τ.lock ≤ o0) (Q : TEx → aq) (hQ0 : ∀ (fr : TF) (tk2 : TK) (τ2 : TH),∀ (u0 : Option (Nat × TypeId)),True → lkp fr 7 = .ptr o0 0 → tk2.take 1 = [u0] → τ2.cut τ.next = (τ.put o0 ⟨dx,List.map (TV.int .u32) r⟩) → Q (.exit 4) fr tk2 τ2) ,tW G (.loop [6,7,8] zbx3) Q [(6,.str v0),(7,.ptr o0 0),(8,.int .i64 v2)] [e0] τ
theorem zcc5 (v0 : ByteArray) (v1 : (List Int)) (v2 : Int) (r : (List Int)) (h : qi v0 v1 v2 = some r) : td v0 v1 v2 r := by
 refine fh (f := fun st => gx v0 st.1 st.2) (P := fun st r => ∀ (v1 : (List Int)) (v2 : Int),(v1,v2) = st → td v0 v1 v2 r) ?_ h v1 v2 rfl
 clear h r v2 v1
 intro st o h r ih v1 v2 hst τ o0 e0 hl ha0 hi0 hw0 Q hQ0
 subst hst
 have h : gx v0 v1 v2 = some o := h
 unfold gx at h
 refine nv fun LQ hn hr he => ?_
 by_cases c1 : v2 < ((v0.size : Nat) : Int)
 · rw [if_pos c1] at h
   obtain ⟨c2,h⟩ := ifS h
   have f3 : 8 ≤ v1.length := Nat.le_of_eq (Eq.symm c2)
   have f4 : List.take 8 (List.map (TV.int .u32) v1) = List.map (TV.int .u32) v1 := zbzg c2
   obtain ⟨c5,h⟩ := ifS h
   obtain ⟨y6,hy6,h⟩ := ob h
   have k7 := zcph v1 (v0.extract v2.toNat ((IntKind.i64.wrap (v2 + (64 : Int))).toNat)) _ hy6
   try simp only [CL,MC,reduceToNat] at k7
   obtain ⟨c8,h⟩ := ifS h
   have f9 : (List.map (TV.int .u32) y6 = []) = False := zbyd c8 (by decide)
   have f10 : y6.length ≤ 8 := Nat.le_of_eq c8
   injection h with h; subst h
   have ih := ih y6 (IntKind.i64.wrap (v2 + (64 : Int))) rfl
   unfold td at ih
   simp only [zbx3,i8,TT,Ic.t,ci,reduceEqDiff,reduceIte,reduceAdd,reduceLT,reduceCtorEq,reduceToNat,hl,ha0,hi0,hw0,c1,c2,f3,f4,c5,k7,c8,f9,f10,bm,CL,LTN]
   rw [hn]
   simp only [TT,Ic.t,ci,reduceEqDiff,reduceIte,reduceAdd,reduceLT,reduceCtorEq,reduceToNat,hl,ha0,hi0,hw0,c1,c2,f3,f4,c5,k7,c8,f9,f10,bm,CL,LTN]
   exact ih  (τ.put o0 ⟨dx,List.map (TV.int .u32) y6⟩) o0 _  (by first | assumption | (simp only [ag,ah]; assumption)) (by simp only [TT,Ic.t,ci,reduceEqDiff,reduceIte,reduceAdd,reduceLT,reduceCtorEq,reduceToNat,hl,ha0,hi0,hw0,c1,c2,f3,f4,c5,k7,c8,f9,f10,bm,CL,LTN]) (by first | assumption | (simp only [ag,ah]; assumption)) (by first | assumption | (simp only [ag,ah]; assumption)) Q (fun fr tk2 τ2 u0 u0' g0 ht hτ => hQ0 fr tk2 τ2 u0 u0' g0 ht (by first | exact hτ | simpa only [ag,zbqg,hl,ha0,hi0,hw0] using hτ))
 rw [if_neg c1] at h
 injection h with h; subst h
 obtain rfl : _ = r := ih
 simp only [zbx3,i8,TT,Ic.t,ci,reduceEqDiff,reduceIte,reduceAdd,reduceLT,reduceCtorEq,reduceToNat,hl,ha0,hi0,hw0,he,hr,c1,CL,LTN]
 exact hQ0  _ _ _ _ trivial (by first | rfl | (simp only [TT,Ic.t,ci,reduceEqDiff,reduceIte,reduceAdd,reduceLT,reduceCtorEq,reduceToNat,hl,ha0,hi0,hw0,c1,CL,LTN])) (by first | rfl | (simp only [TT,Ic.t,ci,reduceEqDiff,reduceIte,reduceAdd,reduceLT,reduceCtorEq,reduceToNat,hl,ha0,hi0,hw0,c1,CL,LTN])) (by first | exact jf (Nat.le_refl _) | (simp only [TT,Ic.t,ci,reduceEqDiff,reduceIte,reduceAdd,reduceLT,reduceCtorEq,reduceToNat,hl,ha0,hi0,hw0,zbms ha0,c1,CL,LTN]))
def gw (v0 : (List Int)) (v1 : (List Int)) (v2 : Int) : Option (LS ((List Int) × Int) ((List Int))) :=
 if v2 < (8 : Int) then
  if 0 ≤ v2 ∧ v2 < ((8 : Nat) : Int) then
   ixL v0 v2 >>= fun y3 =>
   if v1.length ≤ 140737488355324 then
    some (.nx ((v1 ++ [(IntKind.u8.wrap (Int.fdiv y3 (2 ^ (Nat.min 24 IntKind.u32.bits)))),(IntKind.u8.wrap (Int.fdiv y3 (2 ^ (Nat.min 16 IntKind.u32.bits)))),(IntKind.u8.wrap (Int.fdiv y3 (2 ^ (Nat.min 8 IntKind.u32.bits)))),(IntKind.u8.wrap y3)]),(IntKind.i64.wrap (v2 + (1 : Int)))))
   else
    none
  else
   none
 else
 some (.dn v1)
def qh (v0 : (List Int)) (v1 : (List Int)) (v2 : Int) : Option ((List Int)) := qb (fun st => gw v0 st.1 st.2) (v1,v2)
theorem zcee (v0 : (List Int)) (v1 : (List Int)) (v2 : Int) : qh v0 v1 v2 = gw v0 v1 v2 >>= LS.go (fun st => qh v0 st.1 st.2) := ig (fun st => gw v0 st.1 st.2) (v1,v2)
def tc (v0 : (List Int)) (v1 : (List Int)) (v2 : Int) (r : (List Int)) : Prop := ∀ (τ : TH) (o0 : Nat) (e0 : Option (Nat × TypeId)) (n1 : Nat) (ty1 : TypeId) (hnn1 : n1 = v1.length) (hty1 : n1 = 0 ∨ ty1 = m5) (hl : τ.lock ≤ τ.next) (ha0 : τ.at o0 = some ⟨dx,List.map (TV.int .u32) v0⟩) (hi0 : o0 < τ.next) (Q : TEx → aq) (hQ0 : ∀ (fr : TF) (tk2 : TK) (τ2 : TH),∀ (u0 : Option (Nat × TypeId)),True → ∀ (u1 : TypeId),(r.length = 0 ∨ u1 = m5) → lkp fr 9 = .sla 1 (List.map (TV.int .u8) r) → tk2.take 2 = [u0,some (r.length,u1)] → τ2.cut τ.next = τ → Q (.exit 6) fr tk2 τ2) ,tW G (.loop [7,9,10] zbx4) Q [(7,.ptr o0 0),(9,.sla 1 (List.map (TV.int .u8) v1)),(10,.int .i64 v2)] [e0,some (n1,ty1)] τ
theorem zcc6 (v0 : (List Int)) (v1 : (List Int)) (v2 : Int) (r : (List Int)) (h : qh v0 v1 v2 = some r) : tc v0 v1 v2 r := by
 refine fh (f := fun st => gw v0 st.1 st.2) (P := fun st r => ∀ (v1 : (List Int)) (v2 : Int),(v1,v2) = st → tc v0 v1 v2 r) ?_ h v1 v2 rfl
 clear h r v2 v1
 intro st o h r ih v1 v2 hst τ o0 e0 n1 ty1 hnn1 hty1 hl ha0 hi0 Q hQ0
 subst hst
 have h : gw v0 v1 v2 = some o := h
 unfold gw at h
 subst hnn1
 refine nv fun LQ hn hr he => ?_
 by_cases c1 : v2 < (8 : Int)
 · rw [if_pos c1] at h
   obtain ⟨c2,h⟩ := ifS h
   obtain ⟨y3,hy3,h⟩ := ob h
   have f4 := bx hy3
   have f4a := (f4.2.2 (TV.int .u32)).1
   have f4b := (f4.2.2 (TV.int .u32)).2
   try simp only [CL,MC,reduceToNat] at f4 f4a f4b
   obtain ⟨c5,h⟩ := ifS h
   have f6 : 4 ≤ maxLen := by unfold maxLen; omega
   have f7 : v1.length + 4 ≤ maxLen := by unfold maxLen; omega
   have f8 : ((List.map (TV.int .u8) v1).all fun e => e.cells.length == 1) = true := zbbh (fun _ => rfl) _
   have f9 : List.map (TV.int .u8) v1 ++ List.map (TV.int .u8) [(IntKind.u8.wrap (Int.fdiv y3 (2 ^ (Nat.min 24 IntKind.u32.bits)))),(IntKind.u8.wrap (Int.fdiv y3 (2 ^ (Nat.min 16 IntKind.u32.bits)))),(IntKind.u8.wrap (Int.fdiv y3 (2 ^ (Nat.min 8 IntKind.u32.bits)))),(IntKind.u8.wrap y3)] = List.map (TV.int .u8) (v1 ++ [(IntKind.u8.wrap (Int.fdiv y3 (2 ^ (Nat.min 24 IntKind.u32.bits)))),(IntKind.u8.wrap (Int.fdiv y3 (2 ^ (Nat.min 16 IntKind.u32.bits)))),(IntKind.u8.wrap (Int.fdiv y3 (2 ^ (Nat.min 8 IntKind.u32.bits)))),(IntKind.u8.wrap y3)]) := zbjb _ _
   try simp only [CL,List.map_cons,List.map_nil] at f9
   injection h with h; subst h
   have ih := ih (v1 ++ [(IntKind.u8.wrap (Int.fdiv y3 (2 ^ (Nat.min 24 IntKind.u32.bits)))),(IntKind.u8.wrap (Int.fdiv y3 (2 ^ (Nat.min 16 IntKind.u32.bits)))),(IntKind.u8.wrap (Int.fdiv y3 (2 ^ (Nat.min 8 IntKind.u32.bits)))),(IntKind.u8.wrap y3)]) (IntKind.i64.wrap (v2 + (1 : Int))) rfl
   unfold tc at ih
   simp only [zbx4,i8,TT,Ic.t,ci,reduceEqDiff,reduceIte,reduceAdd,reduceMul,reduceLT,reduceLeDiff,reduceSub,reduceCtorEq,reduceEq,reduceNe,reduceToNat,Int.reduceLT,reduceLE,reduceNeg,hl,ha0,hi0,hty1,c1,c2,f4.1,f4.2.1,f4a,f4b,c5,f6,f7,f8,f9,CL,LTN]
   rw [hn]
   simp only [TT,Ic.t,ci,reduceEqDiff,reduceIte,reduceAdd,reduceMul,reduceLT,reduceLeDiff,reduceSub,reduceCtorEq,reduceEq,reduceNe,reduceToNat,Int.reduceLT,reduceLE,reduceNeg,hl,ha0,hi0,hty1,c1,c2,f4.1,f4.2.1,f4a,f4b,c5,f6,f7,f8,f9,CL,LTN]
   exact ih  τ o0 _ (v1.length + 4) m5 (by first | rfl | simp [ar]) (by first | exact hty1 | exact Or.inr rfl | assumption | simp) (by first | assumption | (simp only [ag,ah]; assumption)) (by simp only [TT,Ic.t,ci,reduceEqDiff,reduceIte,reduceAdd,reduceMul,reduceLT,reduceLeDiff,reduceSub,reduceCtorEq,reduceEq,reduceNe,reduceToNat,Int.reduceLT,reduceLE,reduceNeg,hl,ha0,hi0,hty1,c1,c2,f4.1,f4.2.1,f4a,f4b,c5,f6,f7,f8,f9,CL,LTN]) (by first | assumption | (simp only [ag,ah]; assumption)) Q hQ0
 rw [if_neg c1] at h
 injection h with h; subst h
 obtain rfl : _ = r := ih
 simp only [zbx4,i8,TT,Ic.t,ci,reduceEqDiff,reduceIte,reduceAdd,reduceMul,reduceLT,reduceLeDiff,reduceSub,reduceCtorEq,reduceEq,reduceNe,reduceToNat,Int.reduceLT,reduceLE,reduceNeg,hl,ha0,hi0,hty1,he,hr,c1,CL,LTN]
 exact hQ0  _ _ _ _ trivial ty1 (by first | exact hty1 | exact Or.inr rfl | assumption | simp) (by first | rfl | (simp only [TT,Ic.t,ci,reduceEqDiff,reduceIte,reduceAdd,reduceMul,reduceLT,reduceLeDiff,reduceSub,reduceCtorEq,reduceEq,reduceNe,reduceToNat,Int.reduceLT,reduceLE,reduceNeg,hl,ha0,hi0,hty1,c1,CL,LTN])) (by first | rfl | (simp only [TT,Ic.t,ci,reduceEqDiff,reduceIte,reduceAdd,reduceMul,reduceLT,reduceLeDiff,reduceSub,reduceCtorEq,reduceEq,reduceNe,reduceToNat,Int.reduceLT,reduceLE,reduceNeg,hl,ha0,hi0,hty1,c1,CL,LTN])) (by first | exact jf (Nat.le_refl _) | (simp only [TT,Ic.t,ci,reduceEqDiff,reduceIte,reduceAdd,reduceMul,reduceLT,reduceLeDiff,reduceSub,reduceCtorEq,reduceEq,reduceNe,reduceToNat,Int.reduceLT,reduceLE,reduceNeg,hl,ha0,hi0,hty1,c1,CL,LTN]))
def zbp9 (p1 : ByteArray) : Option ByteArray :=
 if p1.size = 0 then
  qk p1 [(128 : Int)] >>= fun y3 =>
  qj (IntKind.u64.wrap ((IntKind.u64.wrap ((p1.size : Nat) : Int)) * (8 : Int))) y3 (0 : Int) >>= fun y5 =>
  qi (xr y5) [(1779033703 : Int),(3144134277 : Int),(1013904242 : Int),(2773480762 : Int),(1359893119 : Int),(2600822924 : Int),(528734635 : Int),(1541459225 : Int)] (0 : Int) >>= fun y7 =>
  qh y7 [] (0 : Int) >>= fun y9 =>
  some (xr y9)
 else
 if p1.size ≤ 140737488355327 then
  qk p1 ((vt p1) ++ [(128 : Int)]) >>= fun y16 =>
  qj (IntKind.u64.wrap ((IntKind.u64.wrap ((p1.size : Nat) : Int)) * (8 : Int))) y16 (0 : Int) >>= fun y18 =>
  qi (xr y18) [(1779033703 : Int),(3144134277 : Int),(1013904242 : Int),(2773480762 : Int),(1359893119 : Int),(2600822924 : Int),(528734635 : Int),(1541459225 : Int)] (0 : Int) >>= fun y20 =>
  qh y20 [] (0 : Int) >>= fun y22 =>
  some (xr y22)
 else
  none
theorem zb7z (p1 : ByteArray) (r : ByteArray) (h : zbp9 p1 = some r) (τ : TH) (hl : τ.lock ≤ τ.next) : Ru G zbp8 [.str p1] τ (.str r) τ := by
 refine li fun K hK => ?_
 rw [ce zbih (Nat.le_of_ble_eq_true rfl)]
 unfold zbp9 at h
 by_cases c1 : p1.size = 0
 · rw [if_pos c1] at h
   have f2 : 1 ≤ maxLen := by unfold maxLen; omega
   obtain ⟨y3,hy3,h⟩ := ob h
   simp only [i8,TT,Ic.t,ci,reduceEqDiff,reduceIte,reduceAdd,reduceMul,reduceLT,reduceLeDiff,reduceSub,reduceCtorEq,reduceEq,reduceNe,reduceToNat,Int.reduceLT,reduceLE,reduceNeg,hl,eq_true c1,ar,f2,CL,LTN]
   have Sy3 := zcc3 p1 [(128 : Int)] y3 hy3
   unfold tf at Sy3
   refine Sy3 _ 1 m5 (by first | rfl | simp [ar]) (by first | exact Or.inl rfl | exact Or.inr rfl | assumption | simp) (by first | assumption | omega | (simp only [ag,am,ah,az]; omega)) _ ?_
   intro frq4 tkq4 τq4 u0q4 uh0q4 g0q4 g3q4 htq4 hcq4
   have hcq4 := eq (n := τ.next) hcq4 (by first | omega | (simp only [ag,am]; omega))
   try simp only [List.take_succ_cons,List.take_zero,List.take_nil,CL] at htq4
   try simp only [TT,Ic.t,ci,reduceEqDiff,reduceIte,reduceAdd,reduceMul,reduceLT,reduceLeDiff,reduceSub,reduceCtorEq,reduceEq,reduceNe,reduceToNat,Int.reduceLT,reduceLE,reduceNeg,hl,eq_true c1,ar,f2,CL,LTN] at hcq4
   obtain ⟨y5,hy5,h⟩ := ob h
   simp only [i8,TT,Ic.t,ci,reduceEqDiff,reduceIte,reduceAdd,reduceMul,reduceLT,reduceLeDiff,reduceSub,reduceCtorEq,reduceEq,reduceNe,reduceToNat,Int.reduceLT,reduceLE,reduceNeg,hl,eq_true c1,ar,f2,uh0q4,g0q4,g3q4,htq4,hcq4,CL,LTN]
   have Sy5 := zcc4 (IntKind.u64.wrap ((IntKind.u64.wrap ((p1.size : Nat) : Int)) * (8 : Int))) y3 (0 : Int) y5 hy5
   unfold te at Sy5
   refine Sy5 _ y3.length u0q4 (by first | rfl | simp [ar]) (by first | exact Or.inl rfl | exact Or.inr rfl | assumption | simp) (by first | assumption | omega | (simp only [ag,am,ah,az]; omega)) _ ?_
   intro frq6 tkq6 τq6 u0q6 uh0q6 g3q6 htq6 hcq6
   have hcq6 := eq (n := τ.next) hcq6 (by first | omega | (simp only [ag,am]; omega))
   try simp only [List.take_succ_cons,List.take_zero,List.take_nil,CL] at htq6
   try simp only [TT,Ic.t,ci,reduceEqDiff,reduceIte,reduceAdd,reduceMul,reduceLT,reduceLeDiff,reduceSub,reduceCtorEq,reduceEq,reduceNe,reduceToNat,Int.reduceLT,reduceLE,reduceNeg,hl,eq_true c1,ar,f2,uh0q4,g0q4,g3q4,htq4,hcq4,CL,LTN] at hcq6
   obtain ⟨y7,hy7,h⟩ := ob h
   simp only [i8,TT,Ic.t,ci,reduceEqDiff,reduceIte,reduceAdd,reduceMul,reduceLT,reduceLeDiff,reduceSub,reduceCtorEq,reduceEq,reduceNe,reduceToNat,Int.reduceLT,reduceLE,reduceNeg,hl,eq_true c1,ar,f2,uh0q4,g0q4,g3q4,htq4,hcq4,uh0q6,g3q6,htq6,hcq6,CL,LTN]
   have Sy7 := zcc5 (xr y5) [(1779033703 : Int),(3144134277 : Int),(1013904242 : Int),(2773480762 : Int),(1359893119 : Int),(2600822924 : Int),(528734635 : Int),(1541459225 : Int)] (0 : Int) y7 hy7
   unfold td at Sy7
   refine Sy7 _ τ.next _ (by first | assumption | omega | (simp only [ag,am,ah,az]; omega)) (by first | (simp only [TT,Ic.t,ci,reduceEqDiff,reduceIte,reduceAdd,reduceMul,reduceLT,reduceLeDiff,reduceSub,reduceCtorEq,reduceEq,reduceNe,reduceToNat,Int.reduceLT,reduceLE,reduceNeg,hl,eq_true c1,ar,f2,uh0q4,g0q4,g3q4,htq4,hcq4,uh0q6,g3q6,htq6,hcq6,CL,LTN]; done) | (simp only [TT,Ic.t,ci,reduceEqDiff,reduceIte,reduceAdd,reduceMul,reduceLT,reduceLeDiff,reduceSub,reduceCtorEq,reduceEq,reduceNe,reduceToNat,Int.reduceLT,reduceLE,reduceNeg,hl,eq_true c1,ar,f2,uh0q4,g0q4,g3q4,htq4,hcq4,uh0q6,g3q6,htq6,hcq6,CL,LTN]; rfl)) (by first | assumption | omega | (simp only [ag,am,ah,az]; omega)) (by first | assumption | omega | (simp only [ag,am,ah,az]; omega)) _ ?_
   intro frq8 tkq8 τq8 u0q8 uh0q8 g7q8 htq8 hcq8
   have hcq8 := eq (n := τ.next + 1) hcq8 (by first | omega | (simp only [ag,am]; omega))
   try simp only [List.take_succ_cons,List.take_zero,List.take_nil,CL] at htq8
   try simp only [TT,Ic.t,ci,reduceEqDiff,reduceIte,reduceAdd,reduceMul,reduceLT,reduceLeDiff,reduceSub,reduceCtorEq,reduceEq,reduceNe,reduceToNat,Int.reduceLT,reduceLE,reduceNeg,hl,eq_true c1,ar,f2,uh0q4,g0q4,g3q4,htq4,hcq4,uh0q6,g3q6,htq6,hcq6,CL,LTN] at hcq8
   obtain ⟨y9,hy9,h⟩ := ob h
   simp only [i8,TT,Ic.t,ci,reduceEqDiff,reduceIte,reduceAdd,reduceMul,reduceLT,reduceLeDiff,reduceSub,reduceCtorEq,reduceEq,reduceNe,reduceToNat,Int.reduceLT,reduceLE,reduceNeg,hl,eq_true c1,ar,f2,uh0q4,g0q4,g3q4,htq4,hcq4,uh0q6,g3q6,htq6,hcq6,g7q8,htq8,hcq8,CL,LTN]
   have Sy9 := zcc6 y7 [] (0 : Int) y9 hy9
   unfold tc at Sy9
   refine Sy9 _ τ.next _ 0 0 (by first | rfl | simp [ar]) (by first | exact Or.inl rfl | exact Or.inr rfl | assumption | simp) (by first | assumption | omega | (simp only [ag,am,ah,az]; omega)) (by first | (simp only [TT,Ic.t,ci,reduceEqDiff,reduceIte,reduceAdd,reduceMul,reduceLT,reduceLeDiff,reduceSub,reduceCtorEq,reduceEq,reduceNe,reduceToNat,Int.reduceLT,reduceLE,reduceNeg,hl,eq_true c1,ar,f2,uh0q4,g0q4,g3q4,htq4,hcq4,uh0q6,g3q6,htq6,hcq6,g7q8,htq8,hcq8,CL,LTN]; done) | (simp only [TT,Ic.t,ci,reduceEqDiff,reduceIte,reduceAdd,reduceMul,reduceLT,reduceLeDiff,reduceSub,reduceCtorEq,reduceEq,reduceNe,reduceToNat,Int.reduceLT,reduceLE,reduceNeg,hl,eq_true c1,ar,f2,uh0q4,g0q4,g3q4,htq4,hcq4,uh0q6,g3q6,htq6,hcq6,g7q8,htq8,hcq8,CL,LTN]; rfl)) (by first | assumption | omega | (simp only [ag,am,ah,az]; omega)) _ ?_
   intro frq10 tkq10 τq10 u0q10 uh0q10 u1q10 uh1q10 g9q10 htq10 hcq10
   have hcq10 := eq (n := τ.next + 1) hcq10 (by first | omega | (simp only [ag,am]; omega))
   try simp only [List.take_succ_cons,List.take_zero,List.take_nil,CL] at htq10
   try simp only [TT,Ic.t,ci,reduceEqDiff,reduceIte,reduceAdd,reduceMul,reduceLT,reduceLeDiff,reduceSub,reduceCtorEq,reduceEq,reduceNe,reduceToNat,Int.reduceLT,reduceLE,reduceNeg,hl,eq_true c1,ar,f2,uh0q4,g0q4,g3q4,htq4,hcq4,uh0q6,g3q6,htq6,hcq6,g7q8,htq8,hcq8,CL,LTN] at hcq10
   injection h with h; subst h
   simp only [i8,TT,Ic.t,ci,reduceEqDiff,reduceIte,reduceAdd,reduceMul,reduceLT,reduceLeDiff,reduceSub,reduceCtorEq,reduceEq,reduceNe,reduceToNat,Int.reduceLT,reduceLE,reduceNeg,hl,eq_true c1,ar,f2,uh0q4,g0q4,g3q4,htq4,hcq4,uh0q6,g3q6,htq6,hcq6,g7q8,htq8,hcq8,uh1q10,g9q10,htq10,hcq10,CL,LTN]
   exact hK
 rw [if_neg c1] at h
 obtain ⟨c11,h⟩ := ifS h
 have f12 : 1 ≤ maxLen := by unfold maxLen; omega
 have f13 : p1.size + 1 ≤ maxLen := by unfold maxLen; omega
 have f14 : ((List.map (TV.int .u8) (vt p1)).all fun e => e.cells.length == 1) = true := zbbh (fun _ => rfl) _
 have f15 : List.map (TV.int .u8) (vt p1) ++ List.map (TV.int .u8) [(128 : Int)] = List.map (TV.int .u8) ((vt p1) ++ [(128 : Int)]) := zbjb _ _
 try simp only [CL,List.map_cons,List.map_nil] at f15
 obtain ⟨y16,hy16,h⟩ := ob h
 simp only [i8,TT,Ic.t,ci,reduceEqDiff,reduceIte,reduceAdd,reduceMul,reduceLT,reduceLeDiff,reduceSub,reduceCtorEq,reduceEq,reduceNe,reduceToNat,Int.reduceLT,reduceLE,reduceNeg,hl,c1,ar,c11,f12,f13,f14,f15,CL,LTN]
 have Sy16 := zcc3 p1 ((vt p1) ++ [(128 : Int)]) y16 hy16
 unfold tf at Sy16
 refine Sy16 _ (p1.size + 1) m5 (by first | rfl | simp [ar]) (by first | exact Or.inl rfl | exact Or.inr rfl | assumption | simp) (by first | assumption | omega | (simp only [ag,am,ah,az]; omega)) _ ?_
 intro frq17 tkq17 τq17 u0q17 uh0q17 g0q17 g3q17 htq17 hcq17
 have hcq17 := eq (n := τ.next) hcq17 (by first | omega | (simp only [ag,am]; omega))
 try simp only [List.take_succ_cons,List.take_zero,List.take_nil,CL] at htq17
 try simp only [TT,Ic.t,ci,reduceEqDiff,reduceIte,reduceAdd,reduceMul,reduceLT,reduceLeDiff,reduceSub,reduceCtorEq,reduceEq,reduceNe,reduceToNat,Int.reduceLT,reduceLE,reduceNeg,hl,c1,ar,c11,f12,f13,f14,f15,CL,LTN] at hcq17
 obtain ⟨y18,hy18,h⟩ := ob h
 simp only [i8,TT,Ic.t,ci,reduceEqDiff,reduceIte,reduceAdd,reduceMul,reduceLT,reduceLeDiff,reduceSub,reduceCtorEq,reduceEq,reduceNe,reduceToNat,Int.reduceLT,reduceLE,reduceNeg,hl,c1,ar,c11,f12,f13,f14,f15,uh0q17,g0q17,g3q17,htq17,hcq17,CL,LTN]
 have Sy18 := zcc4 (IntKind.u64.wrap ((IntKind.u64.wrap ((p1.size : Nat) : Int)) * (8 : Int))) y16 (0 : Int) y18 hy18
 unfold te at Sy18
 refine Sy18 _ y16.length u0q17 (by first | rfl | simp [ar]) (by first | exact Or.inl rfl | exact Or.inr rfl | assumption | simp) (by first | assumption | omega | (simp only [ag,am,ah,az]; omega)) _ ?_
 intro frq19 tkq19 τq19 u0q19 uh0q19 g3q19 htq19 hcq19
 have hcq19 := eq (n := τ.next) hcq19 (by first | omega | (simp only [ag,am]; omega))
 try simp only [List.take_succ_cons,List.take_zero,List.take_nil,CL] at htq19
 try simp only [TT,Ic.t,ci,reduceEqDiff,reduceIte,reduceAdd,reduceMul,reduceLT,reduceLeDiff,reduceSub,reduceCtorEq,reduceEq,reduceNe,reduceToNat,Int.reduceLT,reduceLE,reduceNeg,hl,c1,ar,c11,f12,f13,f14,f15,uh0q17,g0q17,g3q17,htq17,hcq17,CL,LTN] at hcq19
 obtain ⟨y20,hy20,h⟩ := ob h
 simp only [i8,TT,Ic.t,ci,reduceEqDiff,reduceIte,reduceAdd,reduceMul,reduceLT,reduceLeDiff,reduceSub,reduceCtorEq,reduceEq,reduceNe,reduceToNat,Int.reduceLT,reduceLE,reduceNeg,hl,c1,ar,c11,f12,f13,f14,f15,uh0q17,g0q17,g3q17,htq17,hcq17,uh0q19,g3q19,htq19,hcq19,CL,LTN]
 have Sy20 := zcc5 (xr y18) [(1779033703 : Int),(3144134277 : Int),(1013904242 : Int),(2773480762 : Int),(1359893119 : Int),(2600822924 : Int),(528734635 : Int),(1541459225 : Int)] (0 : Int) y20 hy20
 unfold td at Sy20
 refine Sy20 _ τ.next _ (by first | assumption | omega | (simp only [ag,am,ah,az]; omega)) (by first | (simp only [TT,Ic.t,ci,reduceEqDiff,reduceIte,reduceAdd,reduceMul,reduceLT,reduceLeDiff,reduceSub,reduceCtorEq,reduceEq,reduceNe,reduceToNat,Int.reduceLT,reduceLE,reduceNeg,hl,c1,ar,c11,f12,f13,f14,f15,uh0q17,g0q17,g3q17,htq17,hcq17,uh0q19,g3q19,htq19,hcq19,CL,LTN]; done) | (simp only [TT,Ic.t,ci,reduceEqDiff,reduceIte,reduceAdd,reduceMul,reduceLT,reduceLeDiff,reduceSub,reduceCtorEq,reduceEq,reduceNe,reduceToNat,Int.reduceLT,reduceLE,reduceNeg,hl,c1,ar,c11,f12,f13,f14,f15,uh0q17,g0q17,g3q17,htq17,hcq17,uh0q19,g3q19,htq19,hcq19,CL,LTN]; rfl)) (by first | assumption | omega | (simp only [ag,am,ah,az]; omega)) (by first | assumption | omega | (simp only [ag,am,ah,az]; omega)) _ ?_
 intro frq21 tkq21 τq21 u0q21 uh0q21 g7q21 htq21 hcq21
 have hcq21 := eq (n := τ.next + 1) hcq21 (by first | omega | (simp only [ag,am]; omega))
 try simp only [List.take_succ_cons,List.take_zero,List.take_nil,CL] at htq21
 try simp only [TT,Ic.t,ci,reduceEqDiff,reduceIte,reduceAdd,reduceMul,reduceLT,reduceLeDiff,reduceSub,reduceCtorEq,reduceEq,reduceNe,reduceToNat,Int.reduceLT,reduceLE,reduceNeg,hl,c1,ar,c11,f12,f13,f14,f15,uh0q17,g0q17,g3q17,htq17,hcq17,uh0q19,g3q19,htq19,hcq19,CL,LTN] at hcq21
 obtain ⟨y22,hy22,h⟩ := ob h
 simp only [i8,TT,Ic.t,ci,reduceEqDiff,reduceIte,reduceAdd,reduceMul,reduceLT,reduceLeDiff,reduceSub,reduceCtorEq,reduceEq,reduceNe,reduceToNat,Int.reduceLT,reduceLE,reduceNeg,hl,c1,ar,c11,f12,f13,f14,f15,uh0q17,g0q17,g3q17,htq17,hcq17,uh0q19,g3q19,htq19,hcq19,g7q21,htq21,hcq21,CL,LTN]
 have Sy22 := zcc6 y20 [] (0 : Int) y22 hy22
 unfold tc at Sy22
 refine Sy22 _ τ.next _ 0 0 (by first | rfl | simp [ar]) (by first | exact Or.inl rfl | exact Or.inr rfl | assumption | simp) (by first | assumption | omega | (simp only [ag,am,ah,az]; omega)) (by first | (simp only [TT,Ic.t,ci,reduceEqDiff,reduceIte,reduceAdd,reduceMul,reduceLT,reduceLeDiff,reduceSub,reduceCtorEq,reduceEq,reduceNe,reduceToNat,Int.reduceLT,reduceLE,reduceNeg,hl,c1,ar,c11,f12,f13,f14,f15,uh0q17,g0q17,g3q17,htq17,hcq17,uh0q19,g3q19,htq19,hcq19,g7q21,htq21,hcq21,CL,LTN]; done) | (simp only [TT,Ic.t,ci,reduceEqDiff,reduceIte,reduceAdd,reduceMul,reduceLT,reduceLeDiff,reduceSub,reduceCtorEq,reduceEq,reduceNe,reduceToNat,Int.reduceLT,reduceLE,reduceNeg,hl,c1,ar,c11,f12,f13,f14,f15,uh0q17,g0q17,g3q17,htq17,hcq17,uh0q19,g3q19,htq19,hcq19,g7q21,htq21,hcq21,CL,LTN]; rfl)) (by first | assumption | omega | (simp only [ag,am,ah,az]; omega)) _ ?_
 intro frq23 tkq23 τq23 u0q23 uh0q23 u1q23 uh1q23 g9q23 htq23 hcq23
 have hcq23 := eq (n := τ.next + 1) hcq23 (by first | omega | (simp only [ag,am]; omega))
 try simp only [List.take_succ_cons,List.take_zero,List.take_nil,CL] at htq23
 try simp only [TT,Ic.t,ci,reduceEqDiff,reduceIte,reduceAdd,reduceMul,reduceLT,reduceLeDiff,reduceSub,reduceCtorEq,reduceEq,reduceNe,reduceToNat,Int.reduceLT,reduceLE,reduceNeg,hl,c1,ar,c11,f12,f13,f14,f15,uh0q17,g0q17,g3q17,htq17,hcq17,uh0q19,g3q19,htq19,hcq19,g7q21,htq21,hcq21,CL,LTN] at hcq23
 injection h with h; subst h
 simp only [i8,TT,Ic.t,ci,reduceEqDiff,reduceIte,reduceAdd,reduceMul,reduceLT,reduceLeDiff,reduceSub,reduceCtorEq,reduceEq,reduceNe,reduceToNat,Int.reduceLT,reduceLE,reduceNeg,hl,c1,ar,c11,f12,f13,f14,f15,uh0q17,g0q17,g3q17,htq17,hcq17,uh0q19,g3q19,htq19,hcq19,g7q21,htq21,hcq21,uh1q23,g9q23,htq23,hcq23,CL,LTN]
 exact hK
theorem zb7y (p1 : ByteArray) (r : ByteArray) (h : zbp9 p1 = some r) (lk : Bool) (d : Option Nat) (K : aq) (fr : TF) (tk : TK) (τ : TH) (hl : τ.lock ≤ τ.next) : fi G lk zbp8 [.str p1] d K fr tk τ = K (ew fr d (.str r)) tk τ :=
 aw (zb7z p1 r h τ  hl) (zb7z p1 r h (τ.locked τ.next)  (Nat.le_refl _) ) (by simp only [TT,Ic.t,ci,reduceEqDiff,reduceIte,reduceAdd,reduceLT,reduceCtorEq,reduceToNat,hl,CL,LTN])
def n9 (p1 : ByteArray) : Option ByteArray :=
 zbp9 p1 >>= fun y1 =>
 if 0 ≤ (16 : Int) ∧ (16 : Int) ≤ (y1.size : Int) then
  some (y1.extract 0 16)
 else
  none
theorem zcak (p1 : ByteArray) (r : ByteArray) (h : n9 p1 = some r) (τ : TH) (hl : τ.lock ≤ τ.next) : Ru G od [.str p1] τ (.str r) τ := by
 refine li fun K hK => ?_
 rw [ce zcth (Nat.le_of_ble_eq_true rfl)]
 unfold n9 at h
 obtain ⟨y1,hy1,h⟩ := ob h
 have k2 := zb7y p1 _ hy1
 try simp only [CL,MC,reduceToNat] at k2
 obtain ⟨c3,h⟩ := ifS h
 injection h with h; subst h
 simp only [zcs5,TT,Ic.t,ci,reduceEqDiff,reduceIte,reduceAdd,reduceLT,reduceCtorEq,reduceToNat,hl,k2,c3,CL,LTN]
 exact hK
theorem zb (p1 : ByteArray) (r : ByteArray) (h : n9 p1 = some r) (lk : Bool) (d : Option Nat) (K : aq) (fr : TF) (tk : TK) (τ : TH) (hl : τ.lock ≤ τ.next) : fi G lk od [.str p1] d K fr tk τ = K (ew fr d (.str r)) tk τ :=
 aw (zcak p1 r h τ  hl) (zcak p1 r h (τ.locked τ.next)  (Nat.le_refl _) ) (by simp only [TT,Ic.t,ci,reduceEqDiff,reduceIte,reduceAdd,reduceLT,reduceCtorEq,reduceToNat,hl,CL,LTN])
def uk (p1 : ByteArray) (p2 : Int) (p3 : Int) (p4 : Int) : Option ByteArray :=
 if p2 < (0 : Int) then
  some (⟨#[]⟩ : ByteArray)
 else
 if (255 : Int) < p2 then
  some (⟨#[]⟩ : ByteArray)
 else
 if p3 < (0 : Int) then
  some (⟨#[]⟩ : ByteArray)
 else
 if (16 : Int) ≤ p3 then
  some (⟨#[]⟩ : ByteArray)
 else
 if p4 < (0 : Int) then
  some (⟨#[]⟩ : ByteArray)
 else
 if (1 : Int) < p4 then
  some (⟨#[]⟩ : ByteArray)
 else
 if ¬ (9223372036854775807 < ((p1.size + (xr [(IntKind.u8.wrap p2),(IntKind.u8.wrap p3),(IntKind.u8.wrap p4)]).size : Nat) : Int)) then
  n9 (p1 ++ (xr [(IntKind.u8.wrap p2),(IntKind.u8.wrap p3),(IntKind.u8.wrap p4)])) >>= fun y8 =>
  some y8
 else
  none
theorem zcao (p1 : ByteArray) (p2 : Int) (p3 : Int) (p4 : Int) (r : ByteArray) (h : uk p1 p2 p3 p4 = some r) (τ : TH) (hl : τ.lock ≤ τ.next) : Ru G ul [.str p1,.int .i64 p2,.int .i64 p3,.int .i64 p4] τ (.str r) τ := by
 refine li fun K hK => ?_
 rw [ce zctk (Nat.le_of_ble_eq_true rfl)]
 unfold uk at h
 by_cases c1 : p2 < (0 : Int)
 · rw [if_pos c1] at h
   injection h with h; subst h
   simp only [uj,TT,Ic.t,ci,reduceEqDiff,reduceIte,reduceAdd,reduceLT,reduceCtorEq,reduceToNat,hl,c1,CL,LTN]
   exact hK
 rw [if_neg c1] at h
 by_cases c2 : (255 : Int) < p2
 · rw [if_pos c2] at h
   injection h with h; subst h
   simp only [uj,TT,Ic.t,ci,reduceEqDiff,reduceIte,reduceAdd,reduceLT,reduceCtorEq,reduceToNat,hl,c1,c2,CL,LTN]
   exact hK
 rw [if_neg c2] at h
 by_cases c3 : p3 < (0 : Int)
 · rw [if_pos c3] at h
   injection h with h; subst h
   simp only [uj,TT,Ic.t,ci,reduceEqDiff,reduceIte,reduceAdd,reduceLT,reduceCtorEq,reduceToNat,hl,c1,c2,c3,CL,LTN]
   exact hK
 rw [if_neg c3] at h
 by_cases c4 : (16 : Int) ≤ p3
 · rw [if_pos c4] at h
   injection h with h; subst h
   simp only [uj,TT,Ic.t,ci,reduceEqDiff,reduceIte,reduceAdd,reduceLT,reduceCtorEq,reduceToNat,hl,c1,c2,c3,c4,CL,LTN]
   exact hK
 rw [if_neg c4] at h
 by_cases c5 : p4 < (0 : Int)
 · rw [if_pos c5] at h
   injection h with h; subst h
   simp only [uj,TT,Ic.t,ci,reduceEqDiff,reduceIte,reduceAdd,reduceLT,reduceCtorEq,reduceToNat,hl,c1,c2,c3,c4,c5,CL,LTN]
   exact hK
 rw [if_neg c5] at h
 by_cases c6 : (1 : Int) < p4
 · rw [if_pos c6] at h
   injection h with h; subst h
   simp only [uj,TT,Ic.t,ci,reduceEqDiff,reduceIte,reduceAdd,reduceLT,reduceCtorEq,reduceToNat,hl,c1,c2,c3,c4,c5,c6,CL,LTN]
   exact hK
 rw [if_neg c6] at h
 obtain ⟨c7,h⟩ := ifS h
 obtain ⟨y8,hy8,h⟩ := ob h
 have k9 := zb (p1 ++ (xr [(IntKind.u8.wrap p2),(IntKind.u8.wrap p3),(IntKind.u8.wrap p4)])) _ hy8
 try simp only [CL,MC,reduceToNat] at k9
 injection h with h; subst h
 simp only [uj,TT,Ic.t,ci,reduceEqDiff,reduceIte,reduceAdd,reduceLT,reduceCtorEq,reduceToNat,hl,c1,c2,c3,c4,c5,c6,c7,k9,CL,LTN]
 exact hK
theorem zcan (p1 : ByteArray) (p2 : Int) (p3 : Int) (p4 : Int) (r : ByteArray) (h : uk p1 p2 p3 p4 = some r) (lk : Bool) (d : Option Nat) (K : aq) (fr : TF) (tk : TK) (τ : TH) (hl : τ.lock ≤ τ.next) : fi G lk ul [.str p1,.int .i64 p2,.int .i64 p3,.int .i64 p4] d K fr tk τ = K (ew fr d (.str r)) tk τ :=
 aw (zcao p1 p2 p3 p4 r h τ  hl) (zcao p1 p2 p3 p4 r h (τ.locked τ.next)  (Nat.le_refl _) ) (by simp only [TT,Ic.t,ci,reduceEqDiff,reduceIte,reduceAdd,reduceLT,reduceCtorEq,reduceToNat,hl,CL,LTN])
def d6 (v0 : ByteArray) (v1 : Int) (v2 : ByteArray) (v3 : Int) : Option (LS (ByteArray × Int) (ByteArray)) :=
 if v3 < (16 : Int) then
  uk v0 v1 v3 (0 : Int) >>= fun y2 =>
  n9 y2 >>= fun y4 =>
  if ¬ (9223372036854775807 < ((v2.size + y4.size : Nat) : Int)) then
   uk v0 v1 v3 (1 : Int) >>= fun y7 =>
   n9 y7 >>= fun y9 =>
   if ¬ (9223372036854775807 < (((v2 ++ y4).size + y9.size : Nat) : Int)) then
    some (.nx (((v2 ++ y4) ++ y9),(IntKind.i64.wrap (v3 + (1 : Int)))))
   else
    none
  else
   none
 else
 some (.dn v2)
def qg (v0 : ByteArray) (v1 : Int) (v2 : ByteArray) (v3 : Int) : Option (ByteArray) := qb (fun st => d6 v0 v1 st.1 st.2) (v2,v3)
theorem zche (v0 : ByteArray) (v1 : Int) (v2 : ByteArray) (v3 : Int) : qg v0 v1 v2 v3 = d6 v0 v1 v2 v3 >>= LS.go (fun st => qg v0 v1 st.1 st.2) := ig (fun st => d6 v0 v1 st.1 st.2) (v2,v3)
def rb (v0 : ByteArray) (v1 : Int) (v2 : ByteArray) (v3 : Int) (r : ByteArray) : Prop := ∀ (τ : TH) (hl : τ.lock ≤ τ.next) (Q : TEx → aq) (hQ0 : ∀ (fr : TF) (tk2 : TK) (τ2 : TH),lkp fr 5 = .str r → tk2.take 0 = [] → τ2.cut τ.next = τ → Q (.exit 0) fr tk2 τ2) ,tW G (.loop [0,1,5,6] xm) Q [(0,.str v0),(1,.int .i64 v1),(5,.str v2),(6,.int .i64 v3)] [] τ
theorem zcrx (v0 : ByteArray) (v1 : Int) (v2 : ByteArray) (v3 : Int) (r : ByteArray) (h : qg v0 v1 v2 v3 = some r) : rb v0 v1 v2 v3 r := by
 refine fh (f := fun st => d6 v0 v1 st.1 st.2) (P := fun st r => ∀ (v2 : ByteArray) (v3 : Int),(v2,v3) = st → rb v0 v1 v2 v3 r) ?_ h v2 v3 rfl
 clear h r v3 v2
 intro st o h r ih v2 v3 hst τ  hl Q hQ0
 subst hst
 have h : d6 v0 v1 v2 v3 = some o := h
 unfold d6 at h
 refine nv fun LQ hn hr he => ?_
 by_cases c1 : v3 < (16 : Int)
 · rw [if_pos c1] at h
   obtain ⟨y2,hy2,h⟩ := ob h
   have k3 := zcan v0 v1 v3 (0 : Int) _ hy2
   try simp only [CL,MC,reduceToNat] at k3
   obtain ⟨y4,hy4,h⟩ := ob h
   have k5 := zb y2 _ hy4
   try simp only [CL,MC,reduceToNat] at k5
   obtain ⟨c6,h⟩ := ifS h
   obtain ⟨y7,hy7,h⟩ := ob h
   have k8 := zcan v0 v1 v3 (1 : Int) _ hy7
   try simp only [CL,MC,reduceToNat] at k8
   obtain ⟨y9,hy9,h⟩ := ob h
   have k10 := zb y7 _ hy9
   try simp only [CL,MC,reduceToNat] at k10
   obtain ⟨c11,h⟩ := ifS h
   injection h with h; subst h
   have ih := ih ((v2 ++ y4) ++ y9) (IntKind.i64.wrap (v3 + (1 : Int))) rfl
   unfold rb at ih
   simp only [xm,u7,TT,Ic.t,ci,reduceEqDiff,reduceIte,reduceAdd,reduceLT,reduceCtorEq,reduceToNat,hl,c1,k3,k5,c6,k8,k10,c11,CL,LTN]
   rw [hn]
   simp only [TT,Ic.t,ci,reduceEqDiff,reduceIte,reduceAdd,reduceLT,reduceCtorEq,reduceToNat,hl,c1,k3,k5,c6,k8,k10,c11,CL,LTN]
   exact ih  τ    (by first | assumption | (simp only [ag,ah]; assumption)) Q hQ0
 rw [if_neg c1] at h
 injection h with h; subst h
 obtain rfl : _ = r := ih
 simp only [xm,u7,TT,Ic.t,ci,reduceEqDiff,reduceIte,reduceAdd,reduceLT,reduceCtorEq,reduceToNat,hl,he,hr,c1,CL,LTN]
 exact hQ0  _ _ _  (by first | rfl | (simp only [TT,Ic.t,ci,reduceEqDiff,reduceIte,reduceAdd,reduceLT,reduceCtorEq,reduceToNat,hl,c1,CL,LTN])) (by first | rfl | (simp only [TT,Ic.t,ci,reduceEqDiff,reduceIte,reduceAdd,reduceLT,reduceCtorEq,reduceToNat,hl,c1,CL,LTN])) (by first | exact jf (Nat.le_refl _) | (simp only [TT,Ic.t,ci,reduceEqDiff,reduceIte,reduceAdd,reduceLT,reduceCtorEq,reduceToNat,hl,c1,CL,LTN]))
def u9 (p1 : ByteArray) (p2 : Int) : Option ByteArray :=
 if p2 < (0 : Int) then
  some (⟨#[]⟩ : ByteArray)
 else
 if (255 : Int) < p2 then
  some (⟨#[]⟩ : ByteArray)
 else
 qg p1 p2 (⟨#[]⟩ : ByteArray) (0 : Int) >>= fun y3 =>
 n9 y3 >>= fun y5 =>
 some y5
theorem zcc7 (p1 : ByteArray) (p2 : Int) (r : ByteArray) (h : u9 p1 p2 = some r) (τ : TH) (hl : τ.lock ≤ τ.next) : Ru G vc [.str p1,.int .i64 p2] τ (.str r) τ := by
 refine li fun K hK => ?_
 rw [ce zcuc (Nat.le_of_ble_eq_true rfl)]
 unfold u9 at h
 by_cases c1 : p2 < (0 : Int)
 · rw [if_pos c1] at h
   injection h with h; subst h
   simp only [u7,TT,Ic.t,ci,reduceEqDiff,reduceIte,reduceAdd,reduceLT,reduceCtorEq,reduceToNat,hl,c1,CL,LTN]
   exact hK
 rw [if_neg c1] at h
 by_cases c2 : (255 : Int) < p2
 · rw [if_pos c2] at h
   injection h with h; subst h
   simp only [u7,TT,Ic.t,ci,reduceEqDiff,reduceIte,reduceAdd,reduceLT,reduceCtorEq,reduceToNat,hl,c1,c2,CL,LTN]
   exact hK
 rw [if_neg c2] at h
 obtain ⟨y3,hy3,h⟩ := ob h
 simp only [u7,TT,Ic.t,ci,reduceEqDiff,reduceIte,reduceAdd,reduceLT,reduceCtorEq,reduceToNat,hl,c1,c2,CL,LTN]
 have Sy3 := zcrx p1 p2 (⟨#[]⟩ : ByteArray) (0 : Int) y3 hy3
 unfold rb at Sy3
 refine Sy3 _ (by first | assumption | omega | (simp only [ag,am,ah,az]; omega)) _ ?_
 intro frq4 tkq4 τq4 g5q4 htq4 hcq4
 have hcq4 := eq (n := τ.next) hcq4 (by first | omega | (simp only [ag,am]; omega))
 try simp only [List.take_succ_cons,List.take_zero,List.take_nil,CL] at htq4
 try simp only [TT,Ic.t,ci,reduceEqDiff,reduceIte,reduceAdd,reduceLT,reduceCtorEq,reduceToNat,hl,c1,c2,CL,LTN] at hcq4
 obtain ⟨y5,hy5,h⟩ := ob h
 have k6 := zb y3 _ hy5
 try simp only [CL,MC,reduceToNat] at k6
 injection h with h; subst h
 simp only [u7,TT,Ic.t,ci,reduceEqDiff,reduceIte,reduceAdd,reduceLT,reduceCtorEq,reduceToNat,hl,c1,c2,g5q4,htq4,hcq4,k6,CL,LTN]
 exact hK
theorem zcqd (p1 : ByteArray) (p2 : Int) (r : ByteArray) (h : u9 p1 p2 = some r) (lk : Bool) (d : Option Nat) (K : aq) (fr : TF) (tk : TK) (τ : TH) (hl : τ.lock ≤ τ.next) : fi G lk vc [.str p1,.int .i64 p2] d K fr tk τ = K (ew fr d (.str r)) tk τ :=
 aw (zcc7 p1 p2 r h τ  hl) (zcc7 p1 p2 r h (τ.locked τ.next)  (Nat.le_refl _) ) (by simp only [TT,Ic.t,ci,reduceEqDiff,reduceIte,reduceAdd,reduceLT,reduceCtorEq,reduceToNat,hl,CL,LTN])
end
end Go.Proofs.Ytdcfoaafkppojaa
