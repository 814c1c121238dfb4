import Derived.Test.YtdcfoaafkppojaaD1
set_option linter.unusedVariables false
set_option linter.unusedSimpArgs false
set_option linter.unusedSectionVars false
open Nat (reduceEqDiff reduceAdd reduceMul reduceLT reduceLeDiff reduceSub)
open Int (reduceToNat reduceNe reduceEq reduceNeg reduceLE)
namespace Go.Proofs.Ytdcfoaafkppojaa
open Go Go.RowKit Sh Ic
noncomputable def jn (v0 : ByteArray) (v1 : (List Int)) : Option (LS ((List Int)) ((List Int))) :=
 if (Int.tmod ((v1.length : Nat) : Int) (64 : Int)) = (56 : Int) then
  some (.dn v1)
 else
 if v1.length ≤ 140737488355327 then
  some (.nx (v1 ++ [(0 : Int)]))
 else
  none
noncomputable def t8 (v0 : ByteArray) (v1 : (List Int)) : Option ((List Int)) := sd (fun st => jn v0 st) v1
theorem zamf (v0 : ByteArray) (v1 : (List Int)) : t8 v0 v1 = jn v0 v1 >>= LS.go (fun st => t8 v0 st) := gw (fun st => jn v0 st) v1
def ww (v0 : ByteArray) (v1 : (List Int)) (r : (List Int)) : Prop := ∀ (τ : TH) (n0 : Nat) (ty0 : TypeId) (hnn0 : n0 = v1.length) (hty0 : n0 = 0 ∨ ty0 = fi) (hl : τ.lock ≤ τ.next) (Q : TEx → aw) (hQ0 : ∀ (fr : TF) (tk2 : TK) (τ2 : TH),∀ (u0 : TypeId),(r.length = 0 ∨ u0 = fi) → lkp fr 0 = .str v0 → lkp fr 3 = .sla 0 (List.map (TV.int .u8) r) → tk2.take 1 = [some (r.length,u0)] → τ2.cut τ.next = τ → Q (.exit 0) fr tk2 τ2) ,tW G (.loop [0,3] zaiz) Q [(0,.str v0),(3,.sla 0 (List.map (TV.int .u8) v1))] [some (n0,ty0)] τ
theorem zapc (v0 : ByteArray) (v1 : (List Int)) (r : (List Int)) (h : t8 v0 v1 = some r) : ww v0 v1 r := by
 refine ff (f := fun st => jn v0 st) (P := fun st r => ∀ (v1 : (List Int)),v1 = st → ww v0 v1 r) ?_ h v1 rfl
 clear h r v1
 intro st o h r ih v1 hst τ  n0 ty0 hnn0 hty0 hl Q hQ0
 subst hst
 have h : jn v0 v1 = some o := h
 unfold jn at h
 subst hnn0
 refine pb fun LQ hn hr he => ?_
 by_cases c1 : (Int.tmod ((v1.length : Nat) : Int) (64 : Int)) = (56 : Int)
 · rw [if_pos c1] at h
   injection h with h; subst h
   obtain rfl : _ = r := ih
   simp -implicitDefEqProofs only [zaiz,kj,TT,Ic.t,ci,reduceEqDiff,reduceIte,reduceAdd,reduceMul,reduceLT,reduceLeDiff,reduceSub,reduceCtorEq,reduceEq,reduceNe,reduceToNat,Int.reduceLT,reduceLE,reduceNeg,hl,hty0,he,hr,eq_true c1,CL,LTN]
   exact hQ0  _ _ _ ty0 (by first | exact hty0 | exact Or.inr rfl | simp) (by first | rfl | (simp -implicitDefEqProofs only [TT,Ic.t,ci,reduceEqDiff,reduceIte,reduceAdd,reduceMul,reduceLT,reduceLeDiff,reduceSub,reduceCtorEq,reduceEq,reduceNe,reduceToNat,Int.reduceLT,reduceLE,reduceNeg,hl,hty0,eq_true c1,CL,LTN])) (by first | rfl | (simp -implicitDefEqProofs only [TT,Ic.t,ci,reduceEqDiff,reduceIte,reduceAdd,reduceMul,reduceLT,reduceLeDiff,reduceSub,reduceCtorEq,reduceEq,reduceNe,reduceToNat,Int.reduceLT,reduceLE,reduceNeg,hl,hty0,eq_true c1,CL,LTN])) (by first | rfl | (simp -implicitDefEqProofs only [TT,Ic.t,ci,reduceEqDiff,reduceIte,reduceAdd,reduceMul,reduceLT,reduceLeDiff,reduceSub,reduceCtorEq,reduceEq,reduceNe,reduceToNat,Int.reduceLT,reduceLE,reduceNeg,hl,hty0,eq_true c1,CL,LTN])) (by first | exact kd (Nat.le_refl _) | (simp -implicitDefEqProofs only [TT,Ic.t,ci,reduceEqDiff,reduceIte,reduceAdd,reduceMul,reduceLT,reduceLeDiff,reduceSub,reduceCtorEq,reduceEq,reduceNe,reduceToNat,Int.reduceLT,reduceLE,reduceNeg,hl,hty0,eq_true c1,CL,LTN]))
 rw [if_neg c1] at h
 obtain ⟨c2,h⟩ := ifS h
 have f3 : 1 ≤ maxLen := by unfold maxLen; omega
 have f4 : v1.length + 1 ≤ maxLen := by unfold maxLen; omega
 have f5 : ((List.map (TV.int .u8) v1).all fun e => e.cells.length == 1) = true := allc (fun _ => rfl) _
 have f6 : List.map (TV.int .u8) v1 ++ List.map (TV.int .u8) [(0 : Int)] = List.map (TV.int .u8) (v1 ++ [(0 : Int)]) := appn _ _
 try simp only [CL,List.map_cons,List.map_nil] at f6
 injection h with h; subst h
 have ih := ih (v1 ++ [(0 : Int)]) rfl
 unfold ww at ih
 simp -implicitDefEqProofs only [zaiz,kj,TT,Ic.t,ci,reduceEqDiff,reduceIte,reduceAdd,reduceMul,reduceLT,reduceLeDiff,reduceSub,reduceCtorEq,reduceEq,reduceNe,reduceToNat,Int.reduceLT,reduceLE,reduceNeg,hl,hty0,c1,c2,f3,f4,f5,f6,CL,LTN]
 rw [hn]
 simp -implicitDefEqProofs only [TT,Ic.t,ci,reduceEqDiff,reduceIte,reduceAdd,reduceMul,reduceLT,reduceLeDiff,reduceSub,reduceCtorEq,reduceEq,reduceNe,reduceToNat,Int.reduceLT,reduceLE,reduceNeg,hl,hty0,c1,c2,f3,f4,f5,f6,CL,LTN]
 exact ih  τ   (v1.length + 1) fi (by first | rfl | simp [ay]) (by first | exact hty0 | exact Or.inr rfl | simp) (by first | assumption | (simp only [ag,ak]; assumption)) Q hQ0
noncomputable def jm (v1 : Int) (v0 : (List Int)) (v2 : Int) : Option (LS ((List Int) × Int) ((List Int))) :=
 if v2 < (8 : Int) then
  if ¬ (IntKind.u64.wrap (IntKind.i64.wrap ((56 : Int) - (IntKind.i64.wrap ((8 : Int) * v2))))) < 0 then
   if v0.length ≤ 140737488355327 then
    some (.nx ((v0 ++ [(IntKind.u8.wrap (Int.fdiv v1 (2 ^ (Nat.min (IntKind.u64.wrap (IntKind.i64.wrap ((56 : Int) - (IntKind.i64.wrap ((8 : Int) * v2))))).toNat IntKind.u64.bits))))]),(IntKind.i64.wrap (v2 + (1 : Int)))))
   else
    none
  else
   none
 else
 some (.dn v0)
noncomputable def t7 (v1 : Int) (v0 : (List Int)) (v2 : Int) : Option ((List Int)) := sd (fun st => jm v1 st.1 st.2) (v0,v2)
theorem zame (v1 : Int) (v0 : (List Int)) (v2 : Int) : t7 v1 v0 v2 = jm v1 v0 v2 >>= LS.go (fun st => t7 v1 st.1 st.2) := gw (fun st => jm v1 st.1 st.2) (v0,v2)
def wv (v1 : Int) (v0 : (List Int)) (v2 : Int) (r : (List Int)) : Prop := ∀ (τ : TH) (n0 : Nat) (ty0 : TypeId) (hnn0 : n0 = v0.length) (hty0 : n0 = 0 ∨ ty0 = fi) (hl : τ.lock ≤ τ.next) (Q : TEx → aw) (hQ0 : ∀ (fr : TF) (tk2 : TK) (τ2 : TH),∀ (u0 : TypeId),(r.length = 0 ∨ u0 = fi) → lkp fr 3 = .sla 0 (List.map (TV.int .u8) r) → tk2.take 1 = [some (r.length,u0)] → τ2.cut τ.next = τ → Q (.exit 2) fr tk2 τ2) ,tW G (.loop [3,4,5] zaiy) Q [(3,.sla 0 (List.map (TV.int .u8) v0)),(4,.int .u64 v1),(5,.int .i64 v2)] [some (n0,ty0)] τ
theorem zapb (v1 : Int) (v0 : (List Int)) (v2 : Int) (r : (List Int)) (h : t7 v1 v0 v2 = some r) : wv v1 v0 v2 r := by
 refine ff (f := fun st => jm v1 st.1 st.2) (P := fun st r => ∀ (v0 : (List Int)) (v2 : Int),(v0,v2) = st → wv v1 v0 v2 r) ?_ h v0 v2 rfl
 clear h r v2 v0
 intro st o h r ih v0 v2 hst τ  n0 ty0 hnn0 hty0 hl Q hQ0
 subst hst
 have h : jm v1 v0 v2 = some o := h
 unfold jm at h
 subst hnn0
 refine pb fun LQ hn hr he => ?_
 by_cases c1 : v2 < (8 : Int)
 · rw [if_pos c1] at h
   obtain ⟨c2,h⟩ := ifS h
   obtain ⟨c3,h⟩ := ifS h
   have f4 : 1 ≤ maxLen := by unfold maxLen; omega
   have f5 : v0.length + 1 ≤ maxLen := by unfold maxLen; omega
   have f6 : ((List.map (TV.int .u8) v0).all fun e => e.cells.length == 1) = true := allc (fun _ => rfl) _
   have f7 : List.map (TV.int .u8) v0 ++ List.map (TV.int .u8) [(IntKind.u8.wrap (Int.fdiv v1 (2 ^ (Nat.min (IntKind.u64.wrap (IntKind.i64.wrap ((56 : Int) - (IntKind.i64.wrap ((8 : Int) * v2))))).toNat IntKind.u64.bits))))] = List.map (TV.int .u8) (v0 ++ [(IntKind.u8.wrap (Int.fdiv v1 (2 ^ (Nat.min (IntKind.u64.wrap (IntKind.i64.wrap ((56 : Int) - (IntKind.i64.wrap ((8 : Int) * v2))))).toNat IntKind.u64.bits))))]) := appn _ _
   try simp only [CL,List.map_cons,List.map_nil] at f7
   injection h with h; subst h
   have ih := ih (v0 ++ [(IntKind.u8.wrap (Int.fdiv v1 (2 ^ (Nat.min (IntKind.u64.wrap (IntKind.i64.wrap ((56 : Int) - (IntKind.i64.wrap ((8 : Int) * v2))))).toNat IntKind.u64.bits))))]) (IntKind.i64.wrap (v2 + (1 : Int))) rfl
   unfold wv at ih
   simp -implicitDefEqProofs only [zaiy,kj,TT,Ic.t,ci,reduceEqDiff,reduceIte,reduceAdd,reduceMul,reduceLT,reduceLeDiff,reduceSub,reduceCtorEq,reduceEq,reduceNe,reduceToNat,Int.reduceLT,reduceLE,reduceNeg,hl,hty0,c1,c2,c3,f4,f5,f6,f7,CL,LTN]
   rw [hn]
   simp -implicitDefEqProofs only [TT,Ic.t,ci,reduceEqDiff,reduceIte,reduceAdd,reduceMul,reduceLT,reduceLeDiff,reduceSub,reduceCtorEq,reduceEq,reduceNe,reduceToNat,Int.reduceLT,reduceLE,reduceNeg,hl,hty0,c1,c2,c3,f4,f5,f6,f7,CL,LTN]
   exact ih  τ   (v0.length + 1) fi (by first | rfl | simp [ay]) (by first | exact hty0 | exact Or.inr rfl | simp) (by first | assumption | (simp only [ag,ak]; assumption)) Q hQ0
 rw [if_neg c1] at h
 injection h with h; subst h
 obtain rfl : _ = r := ih
 simp -implicitDefEqProofs only [zaiy,kj,TT,Ic.t,ci,reduceEqDiff,reduceIte,reduceAdd,reduceMul,reduceLT,reduceLeDiff,reduceSub,reduceCtorEq,reduceEq,reduceNe,reduceToNat,Int.reduceLT,reduceLE,reduceNeg,hl,hty0,he,hr,c1,CL,LTN]
 exact hQ0  _ _ _ ty0 (by first | exact hty0 | exact Or.inr rfl | simp) (by first | rfl | (simp -implicitDefEqProofs only [TT,Ic.t,ci,reduceEqDiff,reduceIte,reduceAdd,reduceMul,reduceLT,reduceLeDiff,reduceSub,reduceCtorEq,reduceEq,reduceNe,reduceToNat,Int.reduceLT,reduceLE,reduceNeg,hl,hty0,c1,CL,LTN])) (by first | rfl | (simp -implicitDefEqProofs only [TT,Ic.t,ci,reduceEqDiff,reduceIte,reduceAdd,reduceMul,reduceLT,reduceLeDiff,reduceSub,reduceCtorEq,reduceEq,reduceNe,reduceToNat,Int.reduceLT,reduceLE,reduceNeg,hl,hty0,c1,CL,LTN])) (by first | exact kd (Nat.le_refl _) | (simp -implicitDefEqProofs only [TT,Ic.t,ci,reduceEqDiff,reduceIte,reduceAdd,reduceMul,reduceLT,reduceLeDiff,reduceSub,reduceCtorEq,reduceEq,reduceNe,reduceToNat,Int.reduceLT,reduceLE,reduceNeg,hl,hty0,c1,CL,LTN]))
noncomputable def jl (v0 : ByteArray) (v1 : (List Int)) (v2 : Int) : Option (LS ((List Int) × Int) ((List Int))) :=
 if v2 < ((v0.size : Nat) : Int) then
  if v1.length = 8 then
   if (0 ≤ (IntKind.i64.wrap (v2 + (64 : Int))) ∧ (IntKind.i64.wrap (v2 + (64 : Int))) ≤ (v0.size : Int)) ∧ 0 ≤ v2 ∧ v2 ≤ (IntKind.i64.wrap (v2 + (64 : Int))) then
    zabo v1 (v0.extract v2.toNat ((IntKind.i64.wrap (v2 + (64 : Int))).toNat)) >>= fun y6 =>
    if y6.length = 8 then
     some (.nx (y6,(IntKind.i64.wrap (v2 + (64 : Int)))))
    else
     none
   else
    none
  else
   none
 else
 some (.dn v1)
noncomputable def t6 (v0 : ByteArray) (v1 : (List Int)) (v2 : Int) : Option ((List Int)) := sd (fun st => jl v0 st.1 st.2) (v1,v2)
theorem zamd (v0 : ByteArray) (v1 : (List Int)) (v2 : Int) : t6 v0 v1 v2 = jl v0 v1 v2 >>= LS.go (fun st => t6 v0 st.1 st.2) := gw (fun st => jl v0 st.1 st.2) (v1,v2)
def wu (v0 : ByteArray) (v1 : (List Int)) (v2 : Int) (r : (List Int)) : Prop := ∀ (τ : TH) (o0 : Nat) (e0 : Option (Nat × TypeId)) (hl : τ.lock ≤ τ.next) (ha0 : τ.at o0 = some ⟨fv,List.map (TV.int .u32) v1⟩) (hi0 : o0 < τ.next) (hw0 : τ.lock ≤ o0) (Q : TEx → aw) (hQ0 : ∀ (fr : TF) (tk2 : TK) (τ2 : TH),∀ (u0 : Option (Nat × TypeId)),True → lkp fr 7 = .ptr o0 0 → tk2.take 1 = [u0] → τ2.cut τ.next = (τ.put o0 ⟨fv,List.map (TV.int .u32) r⟩) → Q (.exit 4) fr tk2 τ2) ,tW G (.loop [6,7,8] zaix) Q [(6,.str v0),(7,.ptr o0 0),(8,.int .i64 v2)] [e0] τ
theorem zapa (v0 : ByteArray) (v1 : (List Int)) (v2 : Int) (r : (List Int)) (h : t6 v0 v1 v2 = some r) : wu v0 v1 v2 r := by
 refine ff (f := fun st => jl v0 st.1 st.2) (P := fun st r => ∀ (v1 : (List Int)) (v2 : Int),(v1,v2) = st → wu v0 v1 v2 r) ?_ h v1 v2 rfl
 clear h r v2 v1
 intro st o h r ih v1 v2 hst τ o0 e0 hl ha0 hi0 hw0 Q hQ0
 subst hst
 have h : jl v0 v1 v2 = some o := h
 unfold jl at h
 refine pb fun LQ hn hr he => ?_
 by_cases c1 : v2 < ((v0.size : Nat) : Int)
 · rw [if_pos c1] at h
   obtain ⟨c2,h⟩ := ifS h
   have f3 : 8 ≤ v1.length := Nat.le_of_eq (Eq.symm c2)
   have f4 : List.take 8 (List.map (TV.int .u32) v1) = List.map (TV.int .u32) v1 := zaw4 c2
   obtain ⟨c5,h⟩ := ifS h
   obtain ⟨y6,hy6,h⟩ := ob h
   have k7 := za45 v1 (v0.extract v2.toNat ((IntKind.i64.wrap (v2 + (64 : Int))).toNat)) _ hy6
   try simp only [CL,MC,reduceToNat] at k7
   obtain ⟨c8,h⟩ := ifS h
   have f9 : (List.map (TV.int .u32) y6 = []) = False := zbff c8 (by decide)
   have f10 : y6.length ≤ 8 := Nat.le_of_eq c8
   injection h with h; subst h
   have ih := ih y6 (IntKind.i64.wrap (v2 + (64 : Int))) rfl
   unfold wu at ih
   simp -implicitDefEqProofs only [zaix,kj,TT,Ic.t,ci,reduceEqDiff,reduceIte,reduceAdd,reduceLT,reduceCtorEq,reduceToNat,hl,ha0,hi0,hw0,c1,c2,f3,f4,c5,k7,c8,f9,f10,cd,CL,LTN]
   rw [hn]
   simp -implicitDefEqProofs only [TT,Ic.t,ci,reduceEqDiff,reduceIte,reduceAdd,reduceLT,reduceCtorEq,reduceToNat,hl,ha0,hi0,hw0,c1,c2,f3,f4,c5,k7,c8,f9,f10,cd,CL,LTN]
   exact ih  (τ.put o0 ⟨fv,List.map (TV.int .u32) y6⟩) o0 _  (by first | assumption | (simp only [ag,ak]; assumption)) (by simp -implicitDefEqProofs only [TT,Ic.t,ci,reduceEqDiff,reduceIte,reduceAdd,reduceLT,reduceCtorEq,reduceToNat,hl,ha0,hi0,hw0,c1,c2,f3,f4,c5,k7,c8,f9,f10,cd,CL,LTN]) (by first | assumption | (simp only [ag,ak]; assumption)) (by first | assumption | (simp only [ag,ak]; assumption)) Q (fun fr tk2 τ2 u0 u0' g0 ht hτ => hQ0 fr tk2 τ2 u0 u0' g0 ht (by first | exact hτ | simpa only [ag,zamt,hl,ha0,hi0,hw0] using hτ))
 rw [if_neg c1] at h
 injection h with h; subst h
 obtain rfl : _ = r := ih
 simp -implicitDefEqProofs only [zaix,kj,TT,Ic.t,ci,reduceEqDiff,reduceIte,reduceAdd,reduceLT,reduceCtorEq,reduceToNat,hl,ha0,hi0,hw0,he,hr,c1,CL,LTN]
 exact hQ0  _ _ _ _ trivial (by first | rfl | (simp -implicitDefEqProofs only [TT,Ic.t,ci,reduceEqDiff,reduceIte,reduceAdd,reduceLT,reduceCtorEq,reduceToNat,hl,ha0,hi0,hw0,c1,CL,LTN])) (by first | rfl | (simp -implicitDefEqProofs only [TT,Ic.t,ci,reduceEqDiff,reduceIte,reduceAdd,reduceLT,reduceCtorEq,reduceToNat,hl,ha0,hi0,hw0,c1,CL,LTN])) (by first | exact kd (Nat.le_refl _) | (simp -implicitDefEqProofs only [TT,Ic.t,ci,reduceEqDiff,reduceIte,reduceAdd,reduceLT,reduceCtorEq,reduceToNat,hl,ha0,hi0,hw0,me ha0,c1,CL,LTN]))
noncomputable def jk (v0 : (List Int)) (v1 : (List Int)) (v2 : Int) : Option (LS ((List Int) × Int) ((List Int))) :=
 if v2 < (8 : Int) then
  if 0 ≤ v2 ∧ v2 < ((8 : Nat) : Int) then
   ixL v0 v2 >>= fun y3 =>
   if v1.length ≤ 140737488355324 then
    some (.nx ((v1 ++ [(IntKind.u8.wrap (Int.fdiv y3 (2 ^ (Nat.min 24 IntKind.u32.bits)))),(IntKind.u8.wrap (Int.fdiv y3 (2 ^ (Nat.min 16 IntKind.u32.bits)))),(IntKind.u8.wrap (Int.fdiv y3 (2 ^ (Nat.min 8 IntKind.u32.bits)))),(IntKind.u8.wrap y3)]),(IntKind.i64.wrap (v2 + (1 : Int)))))
   else
    none
  else
   none
 else
 some (.dn v1)
noncomputable def t5 (v0 : (List Int)) (v1 : (List Int)) (v2 : Int) : Option ((List Int)) := sd (fun st => jk v0 st.1 st.2) (v1,v2)
theorem zamc (v0 : (List Int)) (v1 : (List Int)) (v2 : Int) : t5 v0 v1 v2 = jk v0 v1 v2 >>= LS.go (fun st => t5 v0 st.1 st.2) := gw (fun st => jk v0 st.1 st.2) (v1,v2)
def wq (v0 : (List Int)) (v1 : (List Int)) (v2 : Int) (r : (List Int)) : Prop := ∀ (τ : TH) (o0 : Nat) (e0 : Option (Nat × TypeId)) (n1 : Nat) (ty1 : TypeId) (hnn1 : n1 = v1.length) (hty1 : n1 = 0 ∨ ty1 = fi) (hl : τ.lock ≤ τ.next) (ha0 : τ.at o0 = some ⟨fv,List.map (TV.int .u32) v0⟩) (hi0 : o0 < τ.next) (Q : TEx → aw) (hQ0 : ∀ (fr : TF) (tk2 : TK) (τ2 : TH),∀ (u0 : Option (Nat × TypeId)),True → ∀ (u1 : TypeId),(r.length = 0 ∨ u1 = fi) → lkp fr 9 = .sla 1 (List.map (TV.int .u8) r) → tk2.take 2 = [u0,some (r.length,u1)] → τ2.cut τ.next = τ → Q (.exit 6) fr tk2 τ2) ,tW G (.loop [7,9,10] zaiw) Q [(7,.ptr o0 0),(9,.sla 1 (List.map (TV.int .u8) v1)),(10,.int .i64 v2)] [e0,some (n1,ty1)] τ
theorem zao9 (v0 : (List Int)) (v1 : (List Int)) (v2 : Int) (r : (List Int)) (h : t5 v0 v1 v2 = some r) : wq v0 v1 v2 r := by
 refine ff (f := fun st => jk v0 st.1 st.2) (P := fun st r => ∀ (v1 : (List Int)) (v2 : Int),(v1,v2) = st → wq v0 v1 v2 r) ?_ h v1 v2 rfl
 clear h r v2 v1
 intro st o h r ih v1 v2 hst τ o0 e0 n1 ty1 hnn1 hty1 hl ha0 hi0 Q hQ0
 subst hst
 have h : jk v0 v1 v2 = some o := h
 unfold jk at h
 subst hnn1
 refine pb fun LQ hn hr he => ?_
 by_cases c1 : v2 < (8 : Int)
 · rw [if_pos c1] at h
   obtain ⟨c2,h⟩ := ifS h
   obtain ⟨y3,hy3,h⟩ := ob h
   have f4 := dd hy3
   have f4a := (f4.2.2 (TV.int .u32)).1
   have f4b := (f4.2.2 (TV.int .u32)).2
   try simp only [CL,MC,reduceToNat] at f4 f4a f4b
   obtain ⟨c5,h⟩ := ifS h
   have f6 : 4 ≤ maxLen := by unfold maxLen; omega
   have f7 : v1.length + 4 ≤ maxLen := by unfold maxLen; omega
   have f8 : ((List.map (TV.int .u8) v1).all fun e => e.cells.length == 1) = true := allc (fun _ => rfl) _
   have f9 : List.map (TV.int .u8) v1 ++ List.map (TV.int .u8) [(IntKind.u8.wrap (Int.fdiv y3 (2 ^ (Nat.min 24 IntKind.u32.bits)))),(IntKind.u8.wrap (Int.fdiv y3 (2 ^ (Nat.min 16 IntKind.u32.bits)))),(IntKind.u8.wrap (Int.fdiv y3 (2 ^ (Nat.min 8 IntKind.u32.bits)))),(IntKind.u8.wrap y3)] = List.map (TV.int .u8) (v1 ++ [(IntKind.u8.wrap (Int.fdiv y3 (2 ^ (Nat.min 24 IntKind.u32.bits)))),(IntKind.u8.wrap (Int.fdiv y3 (2 ^ (Nat.min 16 IntKind.u32.bits)))),(IntKind.u8.wrap (Int.fdiv y3 (2 ^ (Nat.min 8 IntKind.u32.bits)))),(IntKind.u8.wrap y3)]) := appn _ _
   try simp only [CL,List.map_cons,List.map_nil] at f9
   injection h with h; subst h
   have ih := ih (v1 ++ [(IntKind.u8.wrap (Int.fdiv y3 (2 ^ (Nat.min 24 IntKind.u32.bits)))),(IntKind.u8.wrap (Int.fdiv y3 (2 ^ (Nat.min 16 IntKind.u32.bits)))),(IntKind.u8.wrap (Int.fdiv y3 (2 ^ (Nat.min 8 IntKind.u32.bits)))),(IntKind.u8.wrap y3)]) (IntKind.i64.wrap (v2 + (1 : Int))) rfl
   unfold wq at ih
   simp -implicitDefEqProofs only [zaiw,kj,TT,Ic.t,ci,reduceEqDiff,reduceIte,reduceAdd,reduceMul,reduceLT,reduceLeDiff,reduceSub,reduceCtorEq,reduceEq,reduceNe,reduceToNat,Int.reduceLT,reduceLE,reduceNeg,hl,ha0,hi0,hty1,c1,c2,f4.1,f4.2.1,f4a,f4b,c5,f6,f7,f8,f9,CL,LTN]
   rw [hn]
   simp -implicitDefEqProofs only [TT,Ic.t,ci,reduceEqDiff,reduceIte,reduceAdd,reduceMul,reduceLT,reduceLeDiff,reduceSub,reduceCtorEq,reduceEq,reduceNe,reduceToNat,Int.reduceLT,reduceLE,reduceNeg,hl,ha0,hi0,hty1,c1,c2,f4.1,f4.2.1,f4a,f4b,c5,f6,f7,f8,f9,CL,LTN]
   exact ih  τ o0 _ (v1.length + 4) fi (by first | rfl | simp [ay]) (by first | exact hty1 | exact Or.inr rfl | simp) (by first | assumption | (simp only [ag,ak]; assumption)) (by simp -implicitDefEqProofs only [TT,Ic.t,ci,reduceEqDiff,reduceIte,reduceAdd,reduceMul,reduceLT,reduceLeDiff,reduceSub,reduceCtorEq,reduceEq,reduceNe,reduceToNat,Int.reduceLT,reduceLE,reduceNeg,hl,ha0,hi0,hty1,c1,c2,f4.1,f4.2.1,f4a,f4b,c5,f6,f7,f8,f9,CL,LTN]) (by first | assumption | (simp only [ag,ak]; assumption)) Q hQ0
 rw [if_neg c1] at h
 injection h with h; subst h
 obtain rfl : _ = r := ih
 simp -implicitDefEqProofs only [zaiw,kj,TT,Ic.t,ci,reduceEqDiff,reduceIte,reduceAdd,reduceMul,reduceLT,reduceLeDiff,reduceSub,reduceCtorEq,reduceEq,reduceNe,reduceToNat,Int.reduceLT,reduceLE,reduceNeg,hl,ha0,hi0,hty1,he,hr,c1,CL,LTN]
 exact hQ0  _ _ _ _ trivial ty1 (by first | exact hty1 | exact Or.inr rfl | simp) (by first | rfl | (simp -implicitDefEqProofs only [TT,Ic.t,ci,reduceEqDiff,reduceIte,reduceAdd,reduceMul,reduceLT,reduceLeDiff,reduceSub,reduceCtorEq,reduceEq,reduceNe,reduceToNat,Int.reduceLT,reduceLE,reduceNeg,hl,ha0,hi0,hty1,c1,CL,LTN])) (by first | rfl | (simp -implicitDefEqProofs only [TT,Ic.t,ci,reduceEqDiff,reduceIte,reduceAdd,reduceMul,reduceLT,reduceLeDiff,reduceSub,reduceCtorEq,reduceEq,reduceNe,reduceToNat,Int.reduceLT,reduceLE,reduceNeg,hl,ha0,hi0,hty1,c1,CL,LTN])) (by first | exact kd (Nat.le_refl _) | (simp -implicitDefEqProofs only [TT,Ic.t,ci,reduceEqDiff,reduceIte,reduceAdd,reduceMul,reduceLT,reduceLeDiff,reduceSub,reduceCtorEq,reduceEq,reduceNe,reduceToNat,Int.reduceLT,reduceLE,reduceNeg,hl,ha0,hi0,hty1,c1,CL,LTN]))
noncomputable def zafw (p1 : ByteArray) : Option ByteArray :=
 if p1.size = 0 then
  t8 p1 [(128 : Int)] >>= fun y3 =>
  t7 (IntKind.u64.wrap ((IntKind.u64.wrap ((p1.size : Nat) : Int)) * (8 : Int))) y3 (0 : Int) >>= fun y5 =>
  t6 (zag6 y5) [(1779033703 : Int),(3144134277 : Int),(1013904242 : Int),(2773480762 : Int),(1359893119 : Int),(2600822924 : Int),(528734635 : Int),(1541459225 : Int)] (0 : Int) >>= fun y7 =>
  t5 y7 [] (0 : Int) >>= fun y9 =>
  some (zag6 y9)
 else
 if p1.size ≤ 140737488355327 then
  t8 p1 ((qh p1) ++ [(128 : Int)]) >>= fun y16 =>
  t7 (IntKind.u64.wrap ((IntKind.u64.wrap ((p1.size : Nat) : Int)) * (8 : Int))) y16 (0 : Int) >>= fun y18 =>
  t6 (zag6 y18) [(1779033703 : Int),(3144134277 : Int),(1013904242 : Int),(2773480762 : Int),(1359893119 : Int),(2600822924 : Int),(528734635 : Int),(1541459225 : Int)] (0 : Int) >>= fun y20 =>
  t5 y20 [] (0 : Int) >>= fun y22 =>
  some (zag6 y22)
 else
  none
theorem zaz6 (p1 : ByteArray) (r : ByteArray) (h : zafw p1 = some r) (τ : TH) (hl : τ.lock ≤ τ.next) : Ru G zafx [.str p1] τ (.str r) τ := by
 refine jt fun K hK => ?_
 rw [bx g_R01_Sum (Nat.le_of_ble_eq_true rfl)]
 unfold zafw at h
 by_cases c1 : p1.size = 0
 · rw [if_pos c1] at h
   have f2 : 1 ≤ maxLen := by unfold maxLen; omega
   obtain ⟨y3,hy3,h⟩ := ob h
   simp -implicitDefEqProofs only [kj,TT,Ic.t,ci,reduceEqDiff,reduceIte,reduceAdd,reduceMul,reduceLT,reduceLeDiff,reduceSub,reduceCtorEq,reduceEq,reduceNe,reduceToNat,Int.reduceLT,reduceLE,reduceNeg,hl,eq_true c1,ay,f2,CL,LTN]
   have Sy3 := zapc p1 [(128 : Int)] y3 hy3
   unfold ww at Sy3
   refine Sy3 _ 1 fi (by first | rfl | simp [ay]) (by first | exact Or.inl rfl | exact Or.inr rfl | assumption | simp) (by first | assumption | omega | (simp only [ag,ap,ak,bb]; omega)) _ ?_
   intro frq4 tkq4 τq4 u0q4 uh0q4 g0q4 g3q4 htq4 hcq4
   have hcq4 := ga (n := τ.next) hcq4 (by first | omega | (simp only [ag,ap]; omega))
   try simp only [List.take_succ_cons,List.take_zero,List.take_nil,CL] at htq4
   try simp -implicitDefEqProofs only [TT,Ic.t,ci,reduceEqDiff,reduceIte,reduceAdd,reduceMul,reduceLT,reduceLeDiff,reduceSub,reduceCtorEq,reduceEq,reduceNe,reduceToNat,Int.reduceLT,reduceLE,reduceNeg,hl,eq_true c1,ay,f2,CL,LTN] at hcq4
   obtain ⟨y5,hy5,h⟩ := ob h
   simp -implicitDefEqProofs only [kj,TT,Ic.t,ci,reduceEqDiff,reduceIte,reduceAdd,reduceMul,reduceLT,reduceLeDiff,reduceSub,reduceCtorEq,reduceEq,reduceNe,reduceToNat,Int.reduceLT,reduceLE,reduceNeg,hl,eq_true c1,ay,f2,uh0q4,g0q4,g3q4,htq4,hcq4,CL,LTN]
   have Sy5 := zapb (IntKind.u64.wrap ((IntKind.u64.wrap ((p1.size : Nat) : Int)) * (8 : Int))) y3 (0 : Int) y5 hy5
   unfold wv at Sy5
   refine Sy5 _ y3.length u0q4 (by first | rfl | simp [ay]) (by first | exact Or.inl rfl | exact Or.inr rfl | assumption | simp) (by first | assumption | omega | (simp only [ag,ap,ak,bb]; omega)) _ ?_
   intro frq6 tkq6 τq6 u0q6 uh0q6 g3q6 htq6 hcq6
   have hcq6 := ga (n := τ.next) hcq6 (by first | omega | (simp only [ag,ap]; omega))
   try simp only [List.take_succ_cons,List.take_zero,List.take_nil,CL] at htq6
   try simp -implicitDefEqProofs only [TT,Ic.t,ci,reduceEqDiff,reduceIte,reduceAdd,reduceMul,reduceLT,reduceLeDiff,reduceSub,reduceCtorEq,reduceEq,reduceNe,reduceToNat,Int.reduceLT,reduceLE,reduceNeg,hl,eq_true c1,ay,f2,uh0q4,g0q4,g3q4,htq4,hcq4,CL,LTN] at hcq6
   obtain ⟨y7,hy7,h⟩ := ob h
   simp -implicitDefEqProofs only [kj,TT,Ic.t,ci,reduceEqDiff,reduceIte,reduceAdd,reduceMul,reduceLT,reduceLeDiff,reduceSub,reduceCtorEq,reduceEq,reduceNe,reduceToNat,Int.reduceLT,reduceLE,reduceNeg,hl,eq_true c1,ay,f2,uh0q4,g0q4,g3q4,htq4,hcq4,uh0q6,g3q6,htq6,hcq6,CL,LTN]
   have Sy7 := zapa (zag6 y5) [(1779033703 : Int),(3144134277 : Int),(1013904242 : Int),(2773480762 : Int),(1359893119 : Int),(2600822924 : Int),(528734635 : Int),(1541459225 : Int)] (0 : Int) y7 hy7
   unfold wu at Sy7
   refine Sy7 _ τ.next _ (by first | assumption | omega | (simp only [ag,ap,ak,bb]; omega)) (by first | (simp -implicitDefEqProofs only [TT,Ic.t,ci,reduceEqDiff,reduceIte,reduceAdd,reduceMul,reduceLT,reduceLeDiff,reduceSub,reduceCtorEq,reduceEq,reduceNe,reduceToNat,Int.reduceLT,reduceLE,reduceNeg,hl,eq_true c1,ay,f2,uh0q4,g0q4,g3q4,htq4,hcq4,uh0q6,g3q6,htq6,hcq6,CL,LTN]; done) | (simp -implicitDefEqProofs only [TT,Ic.t,ci,reduceEqDiff,reduceIte,reduceAdd,reduceMul,reduceLT,reduceLeDiff,reduceSub,reduceCtorEq,reduceEq,reduceNe,reduceToNat,Int.reduceLT,reduceLE,reduceNeg,hl,eq_true c1,ay,f2,uh0q4,g0q4,g3q4,htq4,hcq4,uh0q6,g3q6,htq6,hcq6,CL,LTN]; rfl)) (by first | assumption | omega | (simp only [ag,ap,ak,bb]; omega)) (by first | assumption | omega | (simp only [ag,ap,ak,bb]; omega)) _ ?_
   intro frq8 tkq8 τq8 u0q8 uh0q8 g7q8 htq8 hcq8
   have hcq8 := ga (n := τ.next + 1) hcq8 (by first | omega | (simp only [ag,ap]; omega))
   try simp only [List.take_succ_cons,List.take_zero,List.take_nil,CL] at htq8
   try simp -implicitDefEqProofs only [TT,Ic.t,ci,reduceEqDiff,reduceIte,reduceAdd,reduceMul,reduceLT,reduceLeDiff,reduceSub,reduceCtorEq,reduceEq,reduceNe,reduceToNat,Int.reduceLT,reduceLE,reduceNeg,hl,eq_true c1,ay,f2,uh0q4,g0q4,g3q4,htq4,hcq4,uh0q6,g3q6,htq6,hcq6,CL,LTN] at hcq8
   obtain ⟨y9,hy9,h⟩ := ob h
   simp -implicitDefEqProofs only [kj,TT,Ic.t,ci,reduceEqDiff,reduceIte,reduceAdd,reduceMul,reduceLT,reduceLeDiff,reduceSub,reduceCtorEq,reduceEq,reduceNe,reduceToNat,Int.reduceLT,reduceLE,reduceNeg,hl,eq_true c1,ay,f2,uh0q4,g0q4,g3q4,htq4,hcq4,uh0q6,g3q6,htq6,hcq6,g7q8,htq8,hcq8,CL,LTN]
   have Sy9 := zao9 y7 [] (0 : Int) y9 hy9
   unfold wq at Sy9
   refine Sy9 _ τ.next _ 0 0 (by first | rfl | simp [ay]) (by first | exact Or.inl rfl | exact Or.inr rfl | assumption | simp) (by first | assumption | omega | (simp only [ag,ap,ak,bb]; omega)) (by first | (simp -implicitDefEqProofs only [TT,Ic.t,ci,reduceEqDiff,reduceIte,reduceAdd,reduceMul,reduceLT,reduceLeDiff,reduceSub,reduceCtorEq,reduceEq,reduceNe,reduceToNat,Int.reduceLT,reduceLE,reduceNeg,hl,eq_true c1,ay,f2,uh0q4,g0q4,g3q4,htq4,hcq4,uh0q6,g3q6,htq6,hcq6,g7q8,htq8,hcq8,CL,LTN]; done) | (simp -implicitDefEqProofs only [TT,Ic.t,ci,reduceEqDiff,reduceIte,reduceAdd,reduceMul,reduceLT,reduceLeDiff,reduceSub,reduceCtorEq,reduceEq,reduceNe,reduceToNat,Int.reduceLT,reduceLE,reduceNeg,hl,eq_true c1,ay,f2,uh0q4,g0q4,g3q4,htq4,hcq4,uh0q6,g3q6,htq6,hcq6,g7q8,htq8,hcq8,CL,LTN]; rfl)) (by first | assumption | omega | (simp only [ag,ap,ak,bb]; omega)) _ ?_
   intro frq10 tkq10 τq10 u0q10 uh0q10 u1q10 uh1q10 g9q10 htq10 hcq10
   have hcq10 := ga (n := τ.next + 1) hcq10 (by first | omega | (simp only [ag,ap]; omega))
   try simp only [List.take_succ_cons,List.take_zero,List.take_nil,CL] at htq10
   try simp -implicitDefEqProofs only [TT,Ic.t,ci,reduceEqDiff,reduceIte,reduceAdd,reduceMul,reduceLT,reduceLeDiff,reduceSub,reduceCtorEq,reduceEq,reduceNe,reduceToNat,Int.reduceLT,reduceLE,reduceNeg,hl,eq_true c1,ay,f2,uh0q4,g0q4,g3q4,htq4,hcq4,uh0q6,g3q6,htq6,hcq6,g7q8,htq8,hcq8,CL,LTN] at hcq10
   injection h with h; subst h
   simp -implicitDefEqProofs only [kj,TT,Ic.t,ci,reduceEqDiff,reduceIte,reduceAdd,reduceMul,reduceLT,reduceLeDiff,reduceSub,reduceCtorEq,reduceEq,reduceNe,reduceToNat,Int.reduceLT,reduceLE,reduceNeg,hl,eq_true c1,ay,f2,uh0q4,g0q4,g3q4,htq4,hcq4,uh0q6,g3q6,htq6,hcq6,g7q8,htq8,hcq8,uh1q10,g9q10,htq10,hcq10,CL,LTN]
   exact hK
 rw [if_neg c1] at h
 obtain ⟨c11,h⟩ := ifS h
 have f12 : 1 ≤ maxLen := by unfold maxLen; omega
 have f13 : p1.size + 1 ≤ maxLen := by unfold maxLen; omega
 have f14 : ((List.map (TV.int .u8) (qh p1)).all fun e => e.cells.length == 1) = true := allc (fun _ => rfl) _
 have f15 : List.map (TV.int .u8) (qh p1) ++ List.map (TV.int .u8) [(128 : Int)] = List.map (TV.int .u8) ((qh p1) ++ [(128 : Int)]) := appn _ _
 try simp only [CL,List.map_cons,List.map_nil] at f15
 obtain ⟨y16,hy16,h⟩ := ob h
 simp -implicitDefEqProofs only [kj,TT,Ic.t,ci,reduceEqDiff,reduceIte,reduceAdd,reduceMul,reduceLT,reduceLeDiff,reduceSub,reduceCtorEq,reduceEq,reduceNe,reduceToNat,Int.reduceLT,reduceLE,reduceNeg,hl,c1,ay,c11,f12,f13,f14,f15,CL,LTN]
 have Sy16 := zapc p1 ((qh p1) ++ [(128 : Int)]) y16 hy16
 unfold ww at Sy16
 refine Sy16 _ (p1.size + 1) fi (by first | rfl | simp [ay]) (by first | exact Or.inl rfl | exact Or.inr rfl | assumption | simp) (by first | assumption | omega | (simp only [ag,ap,ak,bb]; omega)) _ ?_
 intro frq17 tkq17 τq17 u0q17 uh0q17 g0q17 g3q17 htq17 hcq17
 have hcq17 := ga (n := τ.next) hcq17 (by first | omega | (simp only [ag,ap]; omega))
 try simp only [List.take_succ_cons,List.take_zero,List.take_nil,CL] at htq17
 try simp -implicitDefEqProofs only [TT,Ic.t,ci,reduceEqDiff,reduceIte,reduceAdd,reduceMul,reduceLT,reduceLeDiff,reduceSub,reduceCtorEq,reduceEq,reduceNe,reduceToNat,Int.reduceLT,reduceLE,reduceNeg,hl,c1,ay,c11,f12,f13,f14,f15,CL,LTN] at hcq17
 obtain ⟨y18,hy18,h⟩ := ob h
 simp -implicitDefEqProofs only [kj,TT,Ic.t,ci,reduceEqDiff,reduceIte,reduceAdd,reduceMul,reduceLT,reduceLeDiff,reduceSub,reduceCtorEq,reduceEq,reduceNe,reduceToNat,Int.reduceLT,reduceLE,reduceNeg,hl,c1,ay,c11,f12,f13,f14,f15,uh0q17,g0q17,g3q17,htq17,hcq17,CL,LTN]
 have Sy18 := zapb (IntKind.u64.wrap ((IntKind.u64.wrap ((p1.size : Nat) : Int)) * (8 : Int))) y16 (0 : Int) y18 hy18
 unfold wv at Sy18
 refine Sy18 _ y16.length u0q17 (by first | rfl | simp [ay]) (by first | exact Or.inl rfl | exact Or.inr rfl | assumption | simp) (by first | assumption | omega | (simp only [ag,ap,ak,bb]; omega)) _ ?_
 intro frq19 tkq19 τq19 u0q19 uh0q19 g3q19 htq19 hcq19
 have hcq19 := ga (n := τ.next) hcq19 (by first | omega | (simp only [ag,ap]; omega))
 try simp only [List.take_succ_cons,List.take_zero,List.take_nil,CL] at htq19
 try simp -implicitDefEqProofs only [TT,Ic.t,ci,reduceEqDiff,reduceIte,reduceAdd,reduceMul,reduceLT,reduceLeDiff,reduceSub,reduceCtorEq,reduceEq,reduceNe,reduceToNat,Int.reduceLT,reduceLE,reduceNeg,hl,c1,ay,c11,f12,f13,f14,f15,uh0q17,g0q17,g3q17,htq17,hcq17,CL,LTN] at hcq19
 obtain ⟨y20,hy20,h⟩ := ob h
 simp -implicitDefEqProofs only [kj,TT,Ic.t,ci,reduceEqDiff,reduceIte,reduceAdd,reduceMul,reduceLT,reduceLeDiff,reduceSub,reduceCtorEq,reduceEq,reduceNe,reduceToNat,Int.reduceLT,reduceLE,reduceNeg,hl,c1,ay,c11,f12,f13,f14,f15,uh0q17,g0q17,g3q17,htq17,hcq17,uh0q19,g3q19,htq19,hcq19,CL,LTN]
 have Sy20 := zapa (zag6 y18) [(1779033703 : Int),(3144134277 : Int),(1013904242 : Int),(2773480762 : Int),(1359893119 : Int),(2600822924 : Int),(528734635 : Int),(1541459225 : Int)] (0 : Int) y20 hy20
 unfold wu at Sy20
 refine Sy20 _ τ.next _ (by first | assumption | omega | (simp only [ag,ap,ak,bb]; omega)) (by first | (simp -implicitDefEqProofs only [TT,Ic.t,ci,reduceEqDiff,reduceIte,reduceAdd,reduceMul,reduceLT,reduceLeDiff,reduceSub,reduceCtorEq,reduceEq,reduceNe,reduceToNat,Int.reduceLT,reduceLE,reduceNeg,hl,c1,ay,c11,f12,f13,f14,f15,uh0q17,g0q17,g3q17,htq17,hcq17,uh0q19,g3q19,htq19,hcq19,CL,LTN]; done) | (simp -implicitDefEqProofs only [TT,Ic.t,ci,reduceEqDiff,reduceIte,reduceAdd,reduceMul,reduceLT,reduceLeDiff,reduceSub,reduceCtorEq,reduceEq,reduceNe,reduceToNat,Int.reduceLT,reduceLE,reduceNeg,hl,c1,ay,c11,f12,f13,f14,f15,uh0q17,g0q17,g3q17,htq17,hcq17,uh0q19,g3q19,htq19,hcq19,CL,LTN]; rfl)) (by first | assumption | omega | (simp only [ag,ap,ak,bb]; omega)) (by first | assumption | omega | (simp only [ag,ap,ak,bb]; omega)) _ ?_
 intro frq21 tkq21 τq21 u0q21 uh0q21 g7q21 htq21 hcq21
 have hcq21 := ga (n := τ.next + 1) hcq21 (by first | omega | (simp only [ag,ap]; omega))
 try simp only [List.take_succ_cons,List.take_zero,List.take_nil,CL] at htq21
 try simp -implicitDefEqProofs only [TT,Ic.t,ci,reduceEqDiff,reduceIte,reduceAdd,reduceMul,reduceLT,reduceLeDiff,reduceSub,reduceCtorEq,reduceEq,reduceNe,reduceToNat,Int.reduceLT,reduceLE,reduceNeg,hl,c1,ay,c11,f12,f13,f14,f15,uh0q17,g0q17,g3q17,htq17,hcq17,uh0q19,g3q19,htq19,hcq19,CL,LTN] at hcq21
 obtain ⟨y22,hy22,h⟩ := ob h
 simp -implicitDefEqProofs only [kj,TT,Ic.t,ci,reduceEqDiff,reduceIte,reduceAdd,reduceMul,reduceLT,reduceLeDiff,reduceSub,reduceCtorEq,reduceEq,reduceNe,reduceToNat,Int.reduceLT,reduceLE,reduceNeg,hl,c1,ay,c11,f12,f13,f14,f15,uh0q17,g0q17,g3q17,htq17,hcq17,uh0q19,g3q19,htq19,hcq19,g7q21,htq21,hcq21,CL,LTN]
 have Sy22 := zao9 y20 [] (0 : Int) y22 hy22
 unfold wq at Sy22
 refine Sy22 _ τ.next _ 0 0 (by first | rfl | simp [ay]) (by first | exact Or.inl rfl | exact Or.inr rfl | assumption | simp) (by first | assumption | omega | (simp only [ag,ap,ak,bb]; omega)) (by first | (simp -implicitDefEqProofs only [TT,Ic.t,ci,reduceEqDiff,reduceIte,reduceAdd,reduceMul,reduceLT,reduceLeDiff,reduceSub,reduceCtorEq,reduceEq,reduceNe,reduceToNat,Int.reduceLT,reduceLE,reduceNeg,hl,c1,ay,c11,f12,f13,f14,f15,uh0q17,g0q17,g3q17,htq17,hcq17,uh0q19,g3q19,htq19,hcq19,g7q21,htq21,hcq21,CL,LTN]; done) | (simp -implicitDefEqProofs only [TT,Ic.t,ci,reduceEqDiff,reduceIte,reduceAdd,reduceMul,reduceLT,reduceLeDiff,reduceSub,reduceCtorEq,reduceEq,reduceNe,reduceToNat,Int.reduceLT,reduceLE,reduceNeg,hl,c1,ay,c11,f12,f13,f14,f15,uh0q17,g0q17,g3q17,htq17,hcq17,uh0q19,g3q19,htq19,hcq19,g7q21,htq21,hcq21,CL,LTN]; rfl)) (by first | assumption | omega | (simp only [ag,ap,ak,bb]; omega)) _ ?_
 intro frq23 tkq23 τq23 u0q23 uh0q23 u1q23 uh1q23 g9q23 htq23 hcq23
 have hcq23 := ga (n := τ.next + 1) hcq23 (by first | omega | (simp only [ag,ap]; omega))
 try simp only [List.take_succ_cons,List.take_zero,List.take_nil,CL] at htq23
 try simp -implicitDefEqProofs only [TT,Ic.t,ci,reduceEqDiff,reduceIte,reduceAdd,reduceMul,reduceLT,reduceLeDiff,reduceSub,reduceCtorEq,reduceEq,reduceNe,reduceToNat,Int.reduceLT,reduceLE,reduceNeg,hl,c1,ay,c11,f12,f13,f14,f15,uh0q17,g0q17,g3q17,htq17,hcq17,uh0q19,g3q19,htq19,hcq19,g7q21,htq21,hcq21,CL,LTN] at hcq23
 injection h with h; subst h
 simp -implicitDefEqProofs only [kj,TT,Ic.t,ci,reduceEqDiff,reduceIte,reduceAdd,reduceMul,reduceLT,reduceLeDiff,reduceSub,reduceCtorEq,reduceEq,reduceNe,reduceToNat,Int.reduceLT,reduceLE,reduceNeg,hl,c1,ay,c11,f12,f13,f14,f15,uh0q17,g0q17,g3q17,htq17,hcq17,uh0q19,g3q19,htq19,hcq19,g7q21,htq21,hcq21,uh1q23,g9q23,htq23,hcq23,CL,LTN]
 exact hK
theorem zaz7 (p1 : ByteArray) (r : ByteArray) (h : zafw p1 = some r) (lk : Bool) (d : Option Nat) (K : aw) (fr : TF) (tk : TK) (τ : TH) (hl : τ.lock ≤ τ.next) : fo G lk zafx [.str p1] d K fr tk τ = K (gc fr d (.str r)) tk τ :=
 bn (zaz6 p1 r h τ  hl) (zaz6 p1 r h (τ.locked τ.next)  (Nat.le_refl _) ) (by simp -implicitDefEqProofs only [TT,Ic.t,ci,reduceEqDiff,reduceIte,reduceAdd,reduceLT,reduceCtorEq,reduceToNat,hl,CL,LTN])
noncomputable def rr (p1 : ByteArray) : Option ByteArray :=
 zafw p1 >>= fun y1 =>
 if 0 ≤ (16 : Int) ∧ (16 : Int) ≤ (y1.size : Int) then
  some (y1.extract 0 16)
 else
  none
theorem zat5 (p1 : ByteArray) (r : ByteArray) (h : rr p1 = some r) (τ : TH) (hl : τ.lock ≤ τ.next) : Ru G ru [.str p1] τ (.str r) τ := by
 refine jt fun K hK => ?_
 rw [bx zbbq (Nat.le_of_ble_eq_true rfl)]
 unfold rr at h
 obtain ⟨y1,hy1,h⟩ := ob h
 have k2 := zaz7 p1 _ hy1
 try simp only [CL,MC,reduceToNat] at k2
 obtain ⟨c3,h⟩ := ifS h
 injection h with h; subst h
 simp -implicitDefEqProofs only [zbcm,TT,Ic.t,ci,reduceEqDiff,reduceIte,reduceAdd,reduceLT,reduceCtorEq,reduceToNat,hl,k2,c3,CL,LTN]
 exact hK
theorem zaep (p1 : ByteArray) (r : ByteArray) (h : rr p1 = some r) (lk : Bool) (d : Option Nat) (K : aw) (fr : TF) (tk : TK) (τ : TH) (hl : τ.lock ≤ τ.next) : fo G lk ru [.str p1] d K fr tk τ = K (gc fr d (.str r)) tk τ :=
 bn (zat5 p1 r h τ  hl) (zat5 p1 r h (τ.locked τ.next)  (Nat.le_refl _) ) (by simp -implicitDefEqProofs only [TT,Ic.t,ci,reduceEqDiff,reduceIte,reduceAdd,reduceLT,reduceCtorEq,reduceToNat,hl,CL,LTN])
noncomputable def yh (p1 : ByteArray) (p2 : Int) (p3 : Int) (p4 : Int) : Option ByteArray :=
 if p2 < (0 : Int) then
  some (⟨#[]⟩ : ByteArray)
 else
 if (255 : Int) < p2 then
  some (⟨#[]⟩ : ByteArray)
 else
 if p3 < (0 : Int) then
  some (⟨#[]⟩ : ByteArray)
 else
 if (16 : Int) ≤ p3 then
  some (⟨#[]⟩ : ByteArray)
 else
 if p4 < (0 : Int) then
  some (⟨#[]⟩ : ByteArray)
 else
 if (1 : Int) < p4 then
  some (⟨#[]⟩ : ByteArray)
 else
 if ¬ (9223372036854775807 < ((p1.size + (zag6 [(IntKind.u8.wrap p2),(IntKind.u8.wrap p3),(IntKind.u8.wrap p4)]).size : Nat) : Int)) then
  rr (p1 ++ (zag6 [(IntKind.u8.wrap p2),(IntKind.u8.wrap p3),(IntKind.u8.wrap p4)])) >>= fun y8 =>
  some y8
 else
  none
theorem zat1 (p1 : ByteArray) (p2 : Int) (p3 : Int) (p4 : Int) (r : ByteArray) (h : yh p1 p2 p3 p4 = some r) (τ : TH) (hl : τ.lock ≤ τ.next) : Ru G yk [.str p1,.int .i64 p2,.int .i64 p3,.int .i64 p4] τ (.str r) τ := by
 refine jt fun K hK => ?_
 rw [bx zbbn (Nat.le_of_ble_eq_true rfl)]
 unfold yh at h
 by_cases c1 : p2 < (0 : Int)
 · rw [if_pos c1] at h
   injection h with h; subst h
   simp -implicitDefEqProofs only [yg,TT,Ic.t,ci,reduceEqDiff,reduceIte,reduceAdd,reduceLT,reduceCtorEq,reduceToNat,hl,c1,CL,LTN]
   exact hK
 rw [if_neg c1] at h
 by_cases c2 : (255 : Int) < p2
 · rw [if_pos c2] at h
   injection h with h; subst h
   simp -implicitDefEqProofs only [yg,TT,Ic.t,ci,reduceEqDiff,reduceIte,reduceAdd,reduceLT,reduceCtorEq,reduceToNat,hl,c1,c2,CL,LTN]
   exact hK
 rw [if_neg c2] at h
 by_cases c3 : p3 < (0 : Int)
 · rw [if_pos c3] at h
   injection h with h; subst h
   simp -implicitDefEqProofs only [yg,TT,Ic.t,ci,reduceEqDiff,reduceIte,reduceAdd,reduceLT,reduceCtorEq,reduceToNat,hl,c1,c2,c3,CL,LTN]
   exact hK
 rw [if_neg c3] at h
 by_cases c4 : (16 : Int) ≤ p3
 · rw [if_pos c4] at h
   injection h with h; subst h
   simp -implicitDefEqProofs only [yg,TT,Ic.t,ci,reduceEqDiff,reduceIte,reduceAdd,reduceLT,reduceCtorEq,reduceToNat,hl,c1,c2,c3,c4,CL,LTN]
   exact hK
 rw [if_neg c4] at h
 by_cases c5 : p4 < (0 : Int)
 · rw [if_pos c5] at h
   injection h with h; subst h
   simp -implicitDefEqProofs only [yg,TT,Ic.t,ci,reduceEqDiff,reduceIte,reduceAdd,reduceLT,reduceCtorEq,reduceToNat,hl,c1,c2,c3,c4,c5,CL,LTN]
   exact hK
 rw [if_neg c5] at h
 by_cases c6 : (1 : Int) < p4
 · rw [if_pos c6] at h
   injection h with h; subst h
   simp -implicitDefEqProofs only [yg,TT,Ic.t,ci,reduceEqDiff,reduceIte,reduceAdd,reduceLT,reduceCtorEq,reduceToNat,hl,c1,c2,c3,c4,c5,c6,CL,LTN]
   exact hK
 rw [if_neg c6] at h
 obtain ⟨c7,h⟩ := ifS h
 obtain ⟨y8,hy8,h⟩ := ob h
 have k9 := zaep (p1 ++ (zag6 [(IntKind.u8.wrap p2),(IntKind.u8.wrap p3),(IntKind.u8.wrap p4)])) _ hy8
 try simp only [CL,MC,reduceToNat] at k9
 injection h with h; subst h
 simp -implicitDefEqProofs only [yg,TT,Ic.t,ci,reduceEqDiff,reduceIte,reduceAdd,reduceLT,reduceCtorEq,reduceToNat,hl,c1,c2,c3,c4,c5,c6,c7,k9,CL,LTN]
 exact hK
theorem zat2 (p1 : ByteArray) (p2 : Int) (p3 : Int) (p4 : Int) (r : ByteArray) (h : yh p1 p2 p3 p4 = some r) (lk : Bool) (d : Option Nat) (K : aw) (fr : TF) (tk : TK) (τ : TH) (hl : τ.lock ≤ τ.next) : fo G lk yk [.str p1,.int .i64 p2,.int .i64 p3,.int .i64 p4] d K fr tk τ = K (gc fr d (.str r)) tk τ :=
 bn (zat1 p1 p2 p3 p4 r h τ  hl) (zat1 p1 p2 p3 p4 r h (τ.locked τ.next)  (Nat.le_refl _) ) (by simp -implicitDefEqProofs only [TT,Ic.t,ci,reduceEqDiff,reduceIte,reduceAdd,reduceLT,reduceCtorEq,reduceToNat,hl,CL,LTN])
noncomputable def gj (v0 : ByteArray) (v1 : Int) (v2 : ByteArray) (v3 : Int) : Option (LS (ByteArray × Int) (ByteArray)) :=
 if v3 < (16 : Int) then
  yh v0 v1 v3 (0 : Int) >>= fun y2 =>
  rr y2 >>= fun y4 =>
  if ¬ (9223372036854775807 < ((v2.size + y4.size : Nat) : Int)) then
   yh v0 v1 v3 (1 : Int) >>= fun y7 =>
   rr y7 >>= fun y9 =>
   if ¬ (9223372036854775807 < (((v2 ++ y4).size + y9.size : Nat) : Int)) then
    some (.nx (((v2 ++ y4) ++ y9),(IntKind.i64.wrap (v3 + (1 : Int)))))
   else
    none
  else
   none
 else
 some (.dn v2)
noncomputable def t4 (v0 : ByteArray) (v1 : Int) (v2 : ByteArray) (v3 : Int) : Option (ByteArray) := sd (fun st => gj v0 v1 st.1 st.2) (v2,v3)
theorem zagh (v0 : ByteArray) (v1 : Int) (v2 : ByteArray) (v3 : Int) : t4 v0 v1 v2 v3 = gj v0 v1 v2 v3 >>= LS.go (fun st => t4 v0 v1 st.1 st.2) := gw (fun st => gj v0 v1 st.1 st.2) (v2,v3)
def ur (v0 : ByteArray) (v1 : Int) (v2 : ByteArray) (v3 : Int) (r : ByteArray) : Prop := ∀ (τ : TH) (hl : τ.lock ≤ τ.next) (Q : TEx → aw) (hQ0 : ∀ (fr : TF) (tk2 : TK) (τ2 : TH),lkp fr 5 = .str r → tk2.take 0 = [] → τ2.cut τ.next = τ → Q (.exit 0) fr tk2 τ2) ,tW G (.loop [0,1,5,6] zaby) Q [(0,.str v0),(1,.int .i64 v1),(5,.str v2),(6,.int .i64 v3)] [] τ
theorem zau0 (v0 : ByteArray) (v1 : Int) (v2 : ByteArray) (v3 : Int) (r : ByteArray) (h : t4 v0 v1 v2 v3 = some r) : ur v0 v1 v2 v3 r := by
 refine ff (f := fun st => gj v0 v1 st.1 st.2) (P := fun st r => ∀ (v2 : ByteArray) (v3 : Int),(v2,v3) = st → ur v0 v1 v2 v3 r) ?_ h v2 v3 rfl
 clear h r v3 v2
 intro st o h r ih v2 v3 hst τ  hl Q hQ0
 subst hst
 have h : gj v0 v1 v2 v3 = some o := h
 unfold gj at h
 refine pb fun LQ hn hr he => ?_
 by_cases c1 : v3 < (16 : Int)
 · rw [if_pos c1] at h
   obtain ⟨y2,hy2,h⟩ := ob h
   have k3 := zat2 v0 v1 v3 (0 : Int) _ hy2
   try simp only [CL,MC,reduceToNat] at k3
   obtain ⟨y4,hy4,h⟩ := ob h
   have k5 := zaep y2 _ hy4
   try simp only [CL,MC,reduceToNat] at k5
   obtain ⟨c6,h⟩ := ifS h
   obtain ⟨y7,hy7,h⟩ := ob h
   have k8 := zat2 v0 v1 v3 (1 : Int) _ hy7
   try simp only [CL,MC,reduceToNat] at k8
   obtain ⟨y9,hy9,h⟩ := ob h
   have k10 := zaep y7 _ hy9
   try simp only [CL,MC,reduceToNat] at k10
   obtain ⟨c11,h⟩ := ifS h
   injection h with h; subst h
   have ih := ih ((v2 ++ y4) ++ y9) (IntKind.i64.wrap (v3 + (1 : Int))) rfl
   unfold ur at ih
   simp -implicitDefEqProofs only [zaby,zn,TT,Ic.t,ci,reduceEqDiff,reduceIte,reduceAdd,reduceLT,reduceCtorEq,reduceToNat,hl,c1,k3,k5,c6,k8,k10,c11,CL,LTN]
   rw [hn]
   simp -implicitDefEqProofs only [TT,Ic.t,ci,reduceEqDiff,reduceIte,reduceAdd,reduceLT,reduceCtorEq,reduceToNat,hl,c1,k3,k5,c6,k8,k10,c11,CL,LTN]
   exact ih  τ    (by first | assumption | (simp only [ag,ak]; assumption)) Q hQ0
 rw [if_neg c1] at h
 injection h with h; subst h
 obtain rfl : _ = r := ih
 simp -implicitDefEqProofs only [zaby,zn,TT,Ic.t,ci,reduceEqDiff,reduceIte,reduceAdd,reduceLT,reduceCtorEq,reduceToNat,hl,he,hr,c1,CL,LTN]
 exact hQ0  _ _ _  (by first | rfl | (simp -implicitDefEqProofs only [TT,Ic.t,ci,reduceEqDiff,reduceIte,reduceAdd,reduceLT,reduceCtorEq,reduceToNat,hl,c1,CL,LTN])) (by first | rfl | (simp -implicitDefEqProofs only [TT,Ic.t,ci,reduceEqDiff,reduceIte,reduceAdd,reduceLT,reduceCtorEq,reduceToNat,hl,c1,CL,LTN])) (by first | exact kd (Nat.le_refl _) | (simp -implicitDefEqProofs only [TT,Ic.t,ci,reduceEqDiff,reduceIte,reduceAdd,reduceLT,reduceCtorEq,reduceToNat,hl,c1,CL,LTN]))
noncomputable def zo (p1 : ByteArray) (p2 : Int) : Option ByteArray :=
 if p2 < (0 : Int) then
  some (⟨#[]⟩ : ByteArray)
 else
 if (255 : Int) < p2 then
  some (⟨#[]⟩ : ByteArray)
 else
 t4 p1 p2 (⟨#[]⟩ : ByteArray) (0 : Int) >>= fun y3 =>
 rr y3 >>= fun y5 =>
 some y5
theorem zao8 (p1 : ByteArray) (p2 : Int) (r : ByteArray) (h : zo p1 p2 = some r) (τ : TH) (hl : τ.lock ≤ τ.next) : Ru G zt [.str p1,.int .i64 p2] τ (.str r) τ := by
 refine jt fun K hK => ?_
 rw [bx za8b (Nat.le_of_ble_eq_true rfl)]
 unfold zo at h
 by_cases c1 : p2 < (0 : Int)
 · rw [if_pos c1] at h
   injection h with h; subst h
   simp -implicitDefEqProofs only [zn,TT,Ic.t,ci,reduceEqDiff,reduceIte,reduceAdd,reduceLT,reduceCtorEq,reduceToNat,hl,c1,CL,LTN]
   exact hK
 rw [if_neg c1] at h
 by_cases c2 : (255 : Int) < p2
 · rw [if_pos c2] at h
   injection h with h; subst h
   simp -implicitDefEqProofs only [zn,TT,Ic.t,ci,reduceEqDiff,reduceIte,reduceAdd,reduceLT,reduceCtorEq,reduceToNat,hl,c1,c2,CL,LTN]
   exact hK
 rw [if_neg c2] at h
 obtain ⟨y3,hy3,h⟩ := ob h
 simp -implicitDefEqProofs only [zn,TT,Ic.t,ci,reduceEqDiff,reduceIte,reduceAdd,reduceLT,reduceCtorEq,reduceToNat,hl,c1,c2,CL,LTN]
 have Sy3 := zau0 p1 p2 (⟨#[]⟩ : ByteArray) (0 : Int) y3 hy3
 unfold ur at Sy3
 refine Sy3 _ (by first | assumption | omega | (simp only [ag,ap,ak,bb]; omega)) _ ?_
 intro frq4 tkq4 τq4 g5q4 htq4 hcq4
 have hcq4 := ga (n := τ.next) hcq4 (by first | omega | (simp only [ag,ap]; omega))
 try simp only [List.take_succ_cons,List.take_zero,List.take_nil,CL] at htq4
 try simp -implicitDefEqProofs only [TT,Ic.t,ci,reduceEqDiff,reduceIte,reduceAdd,reduceLT,reduceCtorEq,reduceToNat,hl,c1,c2,CL,LTN] at hcq4
 obtain ⟨y5,hy5,h⟩ := ob h
 have k6 := zaep y3 _ hy5
 try simp only [CL,MC,reduceToNat] at k6
 injection h with h; subst h
 simp -implicitDefEqProofs only [zn,TT,Ic.t,ci,reduceEqDiff,reduceIte,reduceAdd,reduceLT,reduceCtorEq,reduceToNat,hl,c1,c2,g5q4,htq4,hcq4,k6,CL,LTN]
 exact hK
theorem za01 (p1 : ByteArray) (p2 : Int) (r : ByteArray) (h : zo p1 p2 = some r) (lk : Bool) (d : Option Nat) (K : aw) (fr : TF) (tk : TK) (τ : TH) (hl : τ.lock ≤ τ.next) : fo G lk zt [.str p1,.int .i64 p2] d K fr tk τ = K (gc fr d (.str r)) tk τ :=
 bn (zao8 p1 p2 r h τ  hl) (zao8 p1 p2 r h (τ.locked τ.next)  (Nat.le_refl _) ) (by simp -implicitDefEqProofs only [TT,Ic.t,ci,reduceEqDiff,reduceIte,reduceAdd,reduceLT,reduceCtorEq,reduceToNat,hl,CL,LTN])
end Go.Proofs.Ytdcfoaafkppojaa
