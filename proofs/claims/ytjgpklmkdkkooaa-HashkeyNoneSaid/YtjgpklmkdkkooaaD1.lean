import Derived.Test.YtjgpklmkdkkooaaD0
set_option linter.unusedVariables false
set_option linter.unusedSimpArgs false
set_option linter.unusedSectionVars false
open Nat (reduceEqDiff reduceAdd reduceMul reduceLT reduceLeDiff reduceSub)
open Int (reduceToNat reduceNe reduceEq reduceNeg reduceLE)
namespace Go.Proofs.Ytjgpklmkdkkooaa
open Go Go.RowKit Sh Ic
noncomputable section
def lq (v0:ByteArray) (v1:(List Int)):Option (LS ((List Int)) ((List Int))) :=
 if (Int.tmod ((v1.length:Nat):Int) (64:Int)) = (56:Int) then
  some (.dn v1)
 else
 if v1.length ≤ 140737488355327 then
  some (.nx (v1 ++ [(0:Int)]))
 else
  none
def xv (v0:ByteArray) (v1:(List Int)):Option ((List Int)):=oq (fun st => lq v0 st) v1
theorem zcz8 (v0:ByteArray) (v1:(List Int)):xv v0 v1 = lq v0 v1 >>= LS.go (fun st => xv v0 st):=ew (fun st => lq v0 st) v1
def zb99 (v0:ByteArray) (v1:(List Int)) (r:(List Int)):Prop:=∀ (τ:TH) (n0:Nat) (ty0:TypeId) (hnn0:n0 = v1.length) (hty0:n0 = 0 ∨ ty0 = dv) (hl:τ.lock ≤ τ.next) (Q:TEx → ap) (hQ0:∀ (fr:TF) (tk2:TK) (τ2:TH),∀ (u0:TypeId),(r.length = 0 ∨ u0 = dv) → lkp fr 0 = .str v0 → lkp fr 3 = .sla 0 (List.map (TV.int .u8) r) → tk2.take 1 = [some (r.length,u0)] → τ2.cut τ.next = τ → Q (.exit 0) fr tk2 τ2) ,tW G (.loop [0,3] zce2) Q [(0,.str v0),(3,.sla 0 (List.map (TV.int .u8) v1))] [some (n0,ty0)] τ
theorem zcxg (v0:ByteArray) (v1:(List Int)) (r:(List Int)) (h:xv v0 v1 = some r):zb99 v0 v1 r:=by
 refine di (f:=fun st => lq v0 st) (P:=fun st r => ∀ (v1:(List Int)),v1 = st → zb99 v0 v1 r) ?_ h v1 rfl
 clear h r v1
 intro st o h r ih v1 hst τ  n0 ty0 hnn0 hty0 hl Q hQ0
 subst hst
 have h:lq v0 v1 = some o:=h
 unfold lq at h
 subst hnn0
 refine mo fun LQ hn hr he => ?_
 by_cases c1:(Int.tmod ((v1.length:Nat):Int) (64:Int)) = (56:Int)
 · rw [if_pos c1] at h
   injection h with h; subst h
   obtain rfl:_ = r:=ih
   simp only [zce2,mn,TT,Ic.t,ci,reduceEqDiff,reduceLT,reduceLeDiff,reduceCtorEq,reduceEq,hty0,he,eq_true c1]
   exact hQ0  _ _ _ ty0 (by exact hty0) (by rfl) (by rfl) (by rfl) (by simp only [TT])
 rw [if_neg c1] at h
 obtain ⟨c2,h⟩:=ifS h
 have f3:1 ≤ maxLen:=by unfold maxLen; omega
 have f4:v1.length + 1 ≤ maxLen:=by unfold maxLen; omega
 have f5:((List.map (TV.int .u8) v1).all fun e => e.cells.length == 1) = true:=zbwj (fun _ => rfl) _
 have f6:List.map (TV.int .u8) v1 ++ List.map (TV.int .u8) [(0:Int)] = List.map (TV.int .u8) (v1 ++ [(0:Int)]):=zb2w _ _
 try simp only [List.map_cons,List.map_nil] at f6
 injection h with h; subst h
 have ih:=ih (v1 ++ [(0:Int)]) rfl
 unfold zb99 at ih
 simp only [zce2,mn,TT,Ic.t,ci,reduceEqDiff,reduceLT,reduceLeDiff,reduceCtorEq,reduceEq,hty0,c1,c2,f3,f4,f5,f6]
 rw [hn]
 simp only [TT,reduceLT,reduceCtorEq]
 exact ih  τ   (v1.length + 1) dv (by simp []) (by exact Or.inr rfl) (by assumption) Q hQ0
def lm (v1:Int) (v0:(List Int)) (v2:Int):Option (LS ((List Int) × Int) ((List Int))) :=
 if v2 < (8:Int) then
  if ¬ (IntKind.u64.wrap (IntKind.i64.wrap ((56:Int) - (IntKind.i64.wrap ((8:Int) * v2))))) < 0 then
   if v0.length ≤ 140737488355327 then
    some (.nx ((v0 ++ [(IntKind.u8.wrap (Int.fdiv v1 (2 ^ (Nat.min (IntKind.u64.wrap (IntKind.i64.wrap ((56:Int) - (IntKind.i64.wrap ((8:Int) * v2))))).toNat IntKind.u64.bits))))]),(IntKind.i64.wrap (v2 + (1:Int)))))
   else
    none
  else
   none
 else
 some (.dn v0)
def xu (v1:Int) (v0:(List Int)) (v2:Int):Option ((List Int)):=oq (fun st => lm v1 st.1 st.2) (v0,v2)
theorem zcz9 (v1:Int) (v0:(List Int)) (v2:Int):xu v1 v0 v2 = lm v1 v0 v2 >>= LS.go (fun st => xu v1 st.1 st.2):=ew (fun st => lm v1 st.1 st.2) (v0,v2)
def zcaa (v1:Int) (v0:(List Int)) (v2:Int) (r:(List Int)):Prop:=∀ (τ:TH) (n0:Nat) (ty0:TypeId) (hnn0:n0 = v0.length) (hty0:n0 = 0 ∨ ty0 = dv) (hl:τ.lock ≤ τ.next) (Q:TEx → ap) (hQ0:∀ (fr:TF) (tk2:TK) (τ2:TH),∀ (u0:TypeId),(r.length = 0 ∨ u0 = dv) → lkp fr 3 = .sla 0 (List.map (TV.int .u8) r) → tk2.take 1 = [some (r.length,u0)] → τ2.cut τ.next = τ → Q (.exit 2) fr tk2 τ2) ,tW G (.loop [3,4,5] zce3) Q [(3,.sla 0 (List.map (TV.int .u8) v0)),(4,.int .u64 v1),(5,.int .i64 v2)] [some (n0,ty0)] τ
theorem zcxh (v1:Int) (v0:(List Int)) (v2:Int) (r:(List Int)) (h:xu v1 v0 v2 = some r):zcaa v1 v0 v2 r:=by
 refine di (f:=fun st => lm v1 st.1 st.2) (P:=fun st r => ∀ (v0:(List Int)) (v2:Int),(v0,v2) = st → zcaa v1 v0 v2 r) ?_ h v0 v2 rfl
 clear h r v2 v0
 intro st o h r ih v0 v2 hst τ  n0 ty0 hnn0 hty0 hl Q hQ0
 subst hst
 have h:lm v1 v0 v2 = some o:=h
 unfold lm at h
 subst hnn0
 refine mo fun LQ hn hr he => ?_
 by_cases c1:v2 < (8:Int)
 · rw [if_pos c1] at h
   obtain ⟨c2,h⟩:=ifS h
   obtain ⟨c3,h⟩:=ifS h
   have f4:1 ≤ maxLen:=by unfold maxLen; omega
   have f5:v0.length + 1 ≤ maxLen:=by unfold maxLen; omega
   have f6:((List.map (TV.int .u8) v0).all fun e => e.cells.length == 1) = true:=zbwj (fun _ => rfl) _
   have f7:List.map (TV.int .u8) v0 ++ List.map (TV.int .u8) [(IntKind.u8.wrap (Int.fdiv v1 (2 ^ (Nat.min (IntKind.u64.wrap (IntKind.i64.wrap ((56:Int) - (IntKind.i64.wrap ((8:Int) * v2))))).toNat IntKind.u64.bits))))] = List.map (TV.int .u8) (v0 ++ [(IntKind.u8.wrap (Int.fdiv v1 (2 ^ (Nat.min (IntKind.u64.wrap (IntKind.i64.wrap ((56:Int) - (IntKind.i64.wrap ((8:Int) * v2))))).toNat IntKind.u64.bits))))]):=zb2w _ _
   try simp only [List.map_cons,List.map_nil] at f7
   injection h with h; subst h
   have ih:=ih (v0 ++ [(IntKind.u8.wrap (Int.fdiv v1 (2 ^ (Nat.min (IntKind.u64.wrap (IntKind.i64.wrap ((56:Int) - (IntKind.i64.wrap ((8:Int) * v2))))).toNat IntKind.u64.bits))))]) (IntKind.i64.wrap (v2 + (1:Int))) rfl
   unfold zcaa at ih
   simp only [zce3,mn,TT,Ic.t,ci,reduceEqDiff,reduceLT,reduceLeDiff,reduceCtorEq,hty0,c1,c2,c3,f4,f5,f6,f7]
   rw [hn]
   simp only [TT,reduceEqDiff,reduceLT]
   exact ih  τ   (v0.length + 1) dv (by simp []) (by exact Or.inr rfl) (by assumption) Q hQ0
 rw [if_neg c1] at h
 injection h with h; subst h
 obtain rfl:_ = r:=ih
 simp only [zce3,mn,TT,Ic.t,ci,reduceEqDiff,reduceLT,reduceLeDiff,reduceCtorEq,hty0,he,c1]
 exact hQ0  _ _ _ ty0 (by exact hty0) (by rfl) (by rfl) (by simp only [TT])
def li (v0:ByteArray) (v1:(List Int)) (v2:Int):Option (LS ((List Int) × Int) ((List Int))) :=
 if v2 < ((v0.size:Nat):Int) then
  if v1.length = 8 then
   if (0 ≤ (IntKind.i64.wrap (v2 + (64:Int))) ∧ (IntKind.i64.wrap (v2 + (64:Int))) ≤ (v0.size:Int)) ∧ 0 ≤ v2 ∧ v2 ≤ (IntKind.i64.wrap (v2 + (64:Int))) then
    zb76 v1 (v0.extract v2.toNat ((IntKind.i64.wrap (v2 + (64:Int))).toNat)) >>= fun y6 =>
    if y6.length = 8 then
     some (.nx (y6,(IntKind.i64.wrap (v2 + (64:Int)))))
    else
     none
   else
    none
  else
   none
 else
 some (.dn v1)
def xt (v0:ByteArray) (v1:(List Int)) (v2:Int):Option ((List Int)):=oq (fun st => li v0 st.1 st.2) (v1,v2)
theorem zc0a (v0:ByteArray) (v1:(List Int)) (v2:Int):xt v0 v1 v2 = li v0 v1 v2 >>= LS.go (fun st => xt v0 st.1 st.2):=ew (fun st => li v0 st.1 st.2) (v1,v2)
def zcab (v0:ByteArray) (v1:(List Int)) (v2:Int) (r:(List Int)):Prop:=∀ (τ:TH) (o0:Nat) (e0:Option (Nat × TypeId)) (hl:τ.lock ≤ τ.next) (ha0:τ.at o0 = some ⟨gr,List.map (TV.int .u32) v1⟩) (hi0:o0 < τ.next) (hw0:τ.lock ≤ o0) (Q:TEx → ap) (hQ0:∀ (fr:TF) (tk2:TK) (τ2:TH),∀ (u0:Option (Nat × TypeId)),True → lkp fr 7 = .ptr o0 0 → tk2.take 1 = [u0] → τ2.cut τ.next = (τ.put o0 ⟨gr,List.map (TV.int .u32) r⟩) → Q (.exit 4) fr tk2 τ2) ,tW G (.loop [6,7,8] zce4) Q [(6,.str v0),(7,.ptr o0 0),(8,.int .i64 v2)] [e0] τ
theorem zcxi (v0:ByteArray) (v1:(List Int)) (v2:Int) (r:(List Int)) (h:xt v0 v1 v2 = some r):zcab v0 v1 v2 r:=by
 refine di (f:=fun st => li v0 st.1 st.2) (P:=fun st r => ∀ (v1:(List Int)) (v2:Int),(v1,v2) = st → zcab v0 v1 v2 r) ?_ h v1 v2 rfl
 clear h r v2 v1
 intro st o h r ih v1 v2 hst τ o0 e0 hl ha0 hi0 hw0 Q hQ0
 subst hst
 have h:li v0 v1 v2 = some o:=h
 unfold li at h
 refine mo fun LQ hn hr he => ?_
 by_cases c1:v2 < ((v0.size:Nat):Int)
 · rw [if_pos c1] at h
   obtain ⟨c2,h⟩:=ifS h
   have f3:8 ≤ v1.length:=Nat.le_of_eq (Eq.symm c2)
   have f4:List.take 8 (List.map (TV.int .u32) v1) = List.map (TV.int .u32) v1:=zb9f c2
   obtain ⟨c5,h⟩:=ifS h
   obtain ⟨y6,hy6,h⟩:=ob h
   have k7:=zde0 v1 (v0.extract v2.toNat ((IntKind.i64.wrap (v2 + (64:Int))).toNat)) _ hy6
   try simp only [CL,MC,reduceToNat] at k7
   obtain ⟨c8,h⟩:=ifS h
   have f9:(List.map (TV.int .u32) y6 = []) = False:=zb7d c8 (by decide)
   have f10:y6.length ≤ 8:=Nat.le_of_eq c8
   injection h with h; subst h
   have ih:=ih y6 (IntKind.i64.wrap (v2 + (64:Int))) rfl
   unfold zcab at ih
   simp only [zce4,mn,TT,Ic.t,ci,reduceEqDiff,reduceCtorEq,hl,ha0,hi0,hw0,c1,c2,f4,c5,k7,c8,f9,bv,LTN]
   rw [hn]
   simp only [TT,reduceEqDiff,hi0]
   exact ih  (τ.put o0 ⟨gr,List.map (TV.int .u32) y6⟩) o0 _  (by simp only [aa,ag]; assumption) (by simp only [TT,hi0]) (by simp only [aa]; assumption) (by assumption) Q (fun fr tk2 τ2 u0 u0' g0 ht hτ => hQ0 fr tk2 τ2 u0 u0' g0 ht (by simpa only [aa,rf,hl,ha0,hi0,hw0] using hτ))
 rw [if_neg c1] at h
 injection h with h; subst h
 obtain rfl:_ = r:=ih
 simp only [zce4,mn,TT,Ic.t,ci,reduceEqDiff,reduceCtorEq,ha0,he,c1]
 exact hQ0  _ _ _ _ trivial (by rfl) (by rfl) (by simp only [TT,jj ha0])
def lg (v0:(List Int)) (v1:(List Int)) (v2:Int):Option (LS ((List Int) × Int) ((List Int))) :=
 if v2 < (8:Int) then
  if 0 ≤ v2 ∧ v2 < ((8:Nat):Int) then
   ixL v0 v2 >>= fun y3 =>
   if v1.length ≤ 140737488355324 then
    some (.nx ((v1 ++ [(IntKind.u8.wrap (Int.fdiv y3 (2 ^ (Nat.min 24 IntKind.u32.bits)))),(IntKind.u8.wrap (Int.fdiv y3 (2 ^ (Nat.min 16 IntKind.u32.bits)))),(IntKind.u8.wrap (Int.fdiv y3 (2 ^ (Nat.min 8 IntKind.u32.bits)))),(IntKind.u8.wrap y3)]),(IntKind.i64.wrap (v2 + (1:Int)))))
   else
    none
  else
   none
 else
 some (.dn v1)
def xq (v0:(List Int)) (v1:(List Int)) (v2:Int):Option ((List Int)):=oq (fun st => lg v0 st.1 st.2) (v1,v2)
theorem zc0b (v0:(List Int)) (v1:(List Int)) (v2:Int):xq v0 v1 v2 = lg v0 v1 v2 >>= LS.go (fun st => xq v0 st.1 st.2):=ew (fun st => lg v0 st.1 st.2) (v1,v2)
def zcac (v0:(List Int)) (v1:(List Int)) (v2:Int) (r:(List Int)):Prop:=∀ (τ:TH) (o0:Nat) (e0:Option (Nat × TypeId)) (n1:Nat) (ty1:TypeId) (hnn1:n1 = v1.length) (hty1:n1 = 0 ∨ ty1 = dv) (hl:τ.lock ≤ τ.next) (ha0:τ.at o0 = some ⟨gr,List.map (TV.int .u32) v0⟩) (hi0:o0 < τ.next) (Q:TEx → ap) (hQ0:∀ (fr:TF) (tk2:TK) (τ2:TH),∀ (u0:Option (Nat × TypeId)),True → ∀ (u1:TypeId),(r.length = 0 ∨ u1 = dv) → lkp fr 9 = .sla 1 (List.map (TV.int .u8) r) → tk2.take 2 = [u0,some (r.length,u1)] → τ2.cut τ.next = τ → Q (.exit 6) fr tk2 τ2) ,tW G (.loop [7,9,10] zce5) Q [(7,.ptr o0 0),(9,.sla 1 (List.map (TV.int .u8) v1)),(10,.int .i64 v2)] [e0,some (n1,ty1)] τ
theorem zcxj (v0:(List Int)) (v1:(List Int)) (v2:Int) (r:(List Int)) (h:xq v0 v1 v2 = some r):zcac v0 v1 v2 r:=by
 refine di (f:=fun st => lg v0 st.1 st.2) (P:=fun st r => ∀ (v1:(List Int)) (v2:Int),(v1,v2) = st → zcac v0 v1 v2 r) ?_ h v1 v2 rfl
 clear h r v2 v1
 intro st o h r ih v1 v2 hst τ o0 e0 n1 ty1 hnn1 hty1 hl ha0 hi0 Q hQ0
 subst hst
 have h:lg v0 v1 v2 = some o:=h
 unfold lg at h
 subst hnn1
 refine mo fun LQ hn hr he => ?_
 by_cases c1:v2 < (8:Int)
 · rw [if_pos c1] at h
   obtain ⟨c2,h⟩:=ifS h
   obtain ⟨y3,hy3,h⟩:=ob h
   have f4:=av hy3
   have f4a:=(f4.2.2 (TV.int .u32)).1
   have f4b:=(f4.2.2 (TV.int .u32)).2
   try simp only [CL,MC,reduceToNat] at f4 f4a f4b
   obtain ⟨c5,h⟩:=ifS h
   have f6:4 ≤ maxLen:=by unfold maxLen; omega
   have f7:v1.length + 4 ≤ maxLen:=by unfold maxLen; omega
   have f8:((List.map (TV.int .u8) v1).all fun e => e.cells.length == 1) = true:=zbwj (fun _ => rfl) _
   have f9:List.map (TV.int .u8) v1 ++ List.map (TV.int .u8) [(IntKind.u8.wrap (Int.fdiv y3 (2 ^ (Nat.min 24 IntKind.u32.bits)))),(IntKind.u8.wrap (Int.fdiv y3 (2 ^ (Nat.min 16 IntKind.u32.bits)))),(IntKind.u8.wrap (Int.fdiv y3 (2 ^ (Nat.min 8 IntKind.u32.bits)))),(IntKind.u8.wrap y3)] = List.map (TV.int .u8) (v1 ++ [(IntKind.u8.wrap (Int.fdiv y3 (2 ^ (Nat.min 24 IntKind.u32.bits)))),(IntKind.u8.wrap (Int.fdiv y3 (2 ^ (Nat.min 16 IntKind.u32.bits)))),(IntKind.u8.wrap (Int.fdiv y3 (2 ^ (Nat.min 8 IntKind.u32.bits)))),(IntKind.u8.wrap y3)]):=zb2w _ _
   try simp only [List.map_cons,List.map_nil] at f9
   injection h with h; subst h
   have ih:=ih (v1 ++ [(IntKind.u8.wrap (Int.fdiv y3 (2 ^ (Nat.min 24 IntKind.u32.bits)))),(IntKind.u8.wrap (Int.fdiv y3 (2 ^ (Nat.min 16 IntKind.u32.bits)))),(IntKind.u8.wrap (Int.fdiv y3 (2 ^ (Nat.min 8 IntKind.u32.bits)))),(IntKind.u8.wrap y3)]) (IntKind.i64.wrap (v2 + (1:Int))) rfl
   unfold zcac at ih
   simp only [zce5,mn,TT,Ic.t,ci,reduceEqDiff,reduceAdd,reduceLT,reduceLeDiff,reduceCtorEq,reduceToNat,Int.reduceLT,ha0,hi0,hty1,c1,c2,f4b,c5,f6,f7,f8,f9]
   rw [hn]
   simp only [TT,reduceEqDiff,reduceAdd,reduceLT,hi0]
   exact ih  τ o0 _ (v1.length + 4) dv (by simp []) (by exact Or.inr rfl) (by assumption) (by simp only [ha0]) (by assumption) Q hQ0
 rw [if_neg c1] at h
 injection h with h; subst h
 obtain rfl:_ = r:=ih
 simp only [zce5,mn,TT,Ic.t,ci,reduceEqDiff,reduceCtorEq,ha0,he,c1]
 exact hQ0  _ _ _ _ trivial ty1 (by exact hty1) (by rfl) (by rfl) (by simp only [TT])
def zb3y (p1:ByteArray):Option ByteArray :=
 if p1.size = 0 then
  xv p1 [(128:Int)] >>= fun y3 =>
  xu (IntKind.u64.wrap ((IntKind.u64.wrap ((p1.size:Nat):Int)) * (8:Int))) y3 (0:Int) >>= fun y5 =>
  xt (yu y5) [(1779033703:Int),(3144134277:Int),(1013904242:Int),(2773480762:Int),(1359893119:Int),(2600822924:Int),(528734635:Int),(1541459225:Int)] (0:Int) >>= fun y7 =>
  xq y7 [] (0:Int) >>= fun y9 =>
  some (yu y9)
 else
 if p1.size ≤ 140737488355327 then
  xv p1 ((wv p1) ++ [(128:Int)]) >>= fun y16 =>
  xu (IntKind.u64.wrap ((IntKind.u64.wrap ((p1.size:Nat):Int)) * (8:Int))) y16 (0:Int) >>= fun y18 =>
  xt (yu y18) [(1779033703:Int),(3144134277:Int),(1013904242:Int),(2773480762:Int),(1359893119:Int),(2600822924:Int),(528734635:Int),(1541459225:Int)] (0:Int) >>= fun y20 =>
  xq y20 [] (0:Int) >>= fun y22 =>
  some (yu y22)
 else
  none
theorem zc7c (p1:ByteArray) (r:ByteArray) (h:zb3y p1 = some r) (τ:TH) (hl:τ.lock ≤ τ.next):Ru G zb3x [.str p1] τ (.str r) τ:=by
 refine gp fun K hK => ?_
 rw [bc zbu8 (Nat.le_of_ble_eq_true rfl)]
 unfold zb3y at h
 by_cases c1:p1.size = 0
 · rw [if_pos c1] at h
   have f2:1 ≤ maxLen:=by unfold maxLen; omega
   obtain ⟨y3,hy3,h⟩:=ob h
   simp only [mn,TT,Ic.t,ci,reduceEqDiff,reduceLeDiff,reduceCtorEq,eq_true c1,f2,CL]
   have Sy3:=zcxg p1 [(128:Int)] y3 hy3
   unfold zb99 at Sy3
   refine Sy3 _ 1 dv (by rfl) (by exact Or.inr rfl) (by assumption) _ ?_
   intro frq4 tkq4 τq4 u0q4 uh0q4 g0q4 g3q4 htq4 hcq4
   have hcq4:=dp (n:=τ.next) hcq4 (by omega)
   try simp only [List.take_succ_cons,List.take_zero,List.take_nil,CL] at htq4
   try simp only [TT] at hcq4
   obtain ⟨y5,hy5,h⟩:=ob h
   simp only [TT,Ic.t,reduceEqDiff,reduceLT,reduceCtorEq,g0q4,g3q4,htq4,hcq4]
   have Sy5:=zcxh (IntKind.u64.wrap ((IntKind.u64.wrap ((p1.size:Nat):Int)) * (8:Int))) y3 (0:Int) y5 hy5
   unfold zcaa at Sy5
   refine Sy5 _ y3.length u0q4 (by rfl) (by assumption) (by assumption) _ ?_
   intro frq6 tkq6 τq6 u0q6 uh0q6 g3q6 htq6 hcq6
   have hcq6:=dp (n:=τ.next) hcq6 (by omega)
   try simp only [List.take_succ_cons,List.take_zero,List.take_nil,CL] at htq6
   try simp only [TT] at hcq6
   obtain ⟨y7,hy7,h⟩:=ob h
   simp only [TT,Ic.t,reduceEqDiff,reduceAdd,reduceLT,reduceLeDiff,reduceCtorEq,hl,g3q6,htq6,hcq6,LTN]
   have Sy7:=zcxi (yu y5) [(1779033703:Int),(3144134277:Int),(1013904242:Int),(2773480762:Int),(1359893119:Int),(2600822924:Int),(528734635:Int),(1541459225:Int)] (0:Int) y7 hy7
   unfold zcab at Sy7
   refine Sy7 _ τ.next _ (by simp only [ak,aq]; omega) (by simp only [TT]; done) (by simp only [ak]; omega) (by assumption) _ ?_
   intro frq8 tkq8 τq8 u0q8 uh0q8 g7q8 htq8 hcq8
   have hcq8:=dp (n:=τ.next + 1) hcq8 (by simp only [ak]; omega)
   try simp only [List.take_succ_cons,List.take_zero,List.take_nil,CL] at htq8
   try simp only [TT] at hcq8
   obtain ⟨y9,hy9,h⟩:=ob h
   simp only [TT,reduceEqDiff,reduceLT,g7q8,htq8,hcq8]
   have Sy9:=zcxj y7 [] (0:Int) y9 hy9
   unfold zcac at Sy9
   refine Sy9 _ τ.next _ 0 0 (by rfl) (by exact Or.inl rfl) (by simp only [ak,aq]; omega) (by simp only [TT]; done) (by simp only [ak]; omega) _ ?_
   intro frq10 tkq10 τq10 u0q10 uh0q10 u1q10 uh1q10 g9q10 htq10 hcq10
   have hcq10:=dp (n:=τ.next + 1) hcq10 (by simp only [ak]; omega)
   try simp only [List.take_succ_cons,List.take_zero,List.take_nil,CL] at htq10
   try simp only [TT] at hcq10
   injection h with h; subst h
   simp only [TT,Ic.t,reduceAdd,reduceLT,g9q10,htq10,hcq10,LTN]
   exact hK
 rw [if_neg c1] at h
 obtain ⟨c11,h⟩:=ifS h
 have f12:1 ≤ maxLen:=by unfold maxLen; omega
 have f13:p1.size + 1 ≤ maxLen:=by unfold maxLen; omega
 have f14:((List.map (TV.int .u8) (wv p1)).all fun e => e.cells.length == 1) = true:=zbwj (fun _ => rfl) _
 have f15:List.map (TV.int .u8) (wv p1) ++ List.map (TV.int .u8) [(128:Int)] = List.map (TV.int .u8) ((wv p1) ++ [(128:Int)]):=zb2w _ _
 try simp only [List.map_cons,List.map_nil] at f15
 obtain ⟨y16,hy16,h⟩:=ob h
 simp only [mn,TT,Ic.t,ci,reduceEqDiff,reduceLeDiff,reduceCtorEq,c1,ba,c11,f12,f13,f14,f15,CL]
 have Sy16:=zcxg p1 ((wv p1) ++ [(128:Int)]) y16 hy16
 unfold zb99 at Sy16
 refine Sy16 _ (p1.size + 1) dv (by simp [ba]) (by exact Or.inr rfl) (by assumption) _ ?_
 intro frq17 tkq17 τq17 u0q17 uh0q17 g0q17 g3q17 htq17 hcq17
 have hcq17:=dp (n:=τ.next) hcq17 (by omega)
 try simp only [List.take_succ_cons,List.take_zero,List.take_nil,CL] at htq17
 try simp only [TT] at hcq17
 obtain ⟨y18,hy18,h⟩:=ob h
 simp only [TT,Ic.t,reduceEqDiff,reduceLT,reduceCtorEq,g0q17,g3q17,htq17,hcq17]
 have Sy18:=zcxh (IntKind.u64.wrap ((IntKind.u64.wrap ((p1.size:Nat):Int)) * (8:Int))) y16 (0:Int) y18 hy18
 unfold zcaa at Sy18
 refine Sy18 _ y16.length u0q17 (by rfl) (by assumption) (by assumption) _ ?_
 intro frq19 tkq19 τq19 u0q19 uh0q19 g3q19 htq19 hcq19
 have hcq19:=dp (n:=τ.next) hcq19 (by omega)
 try simp only [List.take_succ_cons,List.take_zero,List.take_nil,CL] at htq19
 try simp only [TT] at hcq19
 obtain ⟨y20,hy20,h⟩:=ob h
 simp only [TT,Ic.t,reduceEqDiff,reduceAdd,reduceLT,reduceLeDiff,reduceCtorEq,hl,g3q19,htq19,hcq19,LTN]
 have Sy20:=zcxi (yu y18) [(1779033703:Int),(3144134277:Int),(1013904242:Int),(2773480762:Int),(1359893119:Int),(2600822924:Int),(528734635:Int),(1541459225:Int)] (0:Int) y20 hy20
 unfold zcab at Sy20
 refine Sy20 _ τ.next _ (by simp only [ak,aq]; omega) (by simp only [TT]; done) (by simp only [ak]; omega) (by assumption) _ ?_
 intro frq21 tkq21 τq21 u0q21 uh0q21 g7q21 htq21 hcq21
 have hcq21:=dp (n:=τ.next + 1) hcq21 (by simp only [ak]; omega)
 try simp only [List.take_succ_cons,List.take_zero,List.take_nil,CL] at htq21
 try simp only [TT] at hcq21
 obtain ⟨y22,hy22,h⟩:=ob h
 simp only [TT,reduceEqDiff,reduceLT,g7q21,htq21,hcq21]
 have Sy22:=zcxj y20 [] (0:Int) y22 hy22
 unfold zcac at Sy22
 refine Sy22 _ τ.next _ 0 0 (by rfl) (by exact Or.inl rfl) (by simp only [ak,aq]; omega) (by simp only [TT]; done) (by simp only [ak]; omega) _ ?_
 intro frq23 tkq23 τq23 u0q23 uh0q23 u1q23 uh1q23 g9q23 htq23 hcq23
 have hcq23:=dp (n:=τ.next + 1) hcq23 (by simp only [ak]; omega)
 try simp only [List.take_succ_cons,List.take_zero,List.take_nil,CL] at htq23
 try simp only [TT] at hcq23
 injection h with h; subst h
 simp only [TT,Ic.t,reduceAdd,reduceLT,g9q23,htq23,hcq23,LTN]
 exact hK
theorem zc7b (p1:ByteArray) (r:ByteArray) (h:zb3y p1 = some r) (lk:Bool) (d:Option Nat) (K:ap) (fr:TF) (tk:TK) (τ:TH) (hl:τ.lock ≤ τ.next):du G lk zb3x [.str p1] d K fr tk τ = K (fp fr d (.str r)) tk τ :=
 au (zc7c p1 r h τ  hl) (zc7c p1 r h (τ.locked τ.next)  (Nat.le_refl _) ) (by simp only [TT])
def ut (p1:ByteArray):Option ByteArray :=
 zb3y p1 >>= fun y1 =>
 if 0 ≤ (16:Int) ∧ (16:Int) ≤ (y1.size:Int) then
  some (y1.extract 0 16)
 else
  none
theorem zda1 (p1:ByteArray) (r:ByteArray) (h:ut p1 = some r) (τ:TH) (hl:τ.lock ≤ τ.next):Ru G uw [.str p1] τ (.str r) τ:=by
 refine gp fun K hK => ?_
 rw [bc zddj (Nat.le_of_ble_eq_true rfl)]
 unfold ut at h
 obtain ⟨y1,hy1,h⟩:=ob h
 have k2:=zc7b p1 _ hy1
 try simp only [CL,MC,reduceToNat] at k2
 obtain ⟨c3,h⟩:=ifS h
 injection h with h; subst h
 simp only [zdcu,TT,Ic.t,ci,reduceCtorEq,reduceToNat,hl,k2,c3]
 exact hK
theorem zcfc (p1:ByteArray) (r:ByteArray) (h:ut p1 = some r) (lk:Bool) (d:Option Nat) (K:ap) (fr:TF) (tk:TK) (τ:TH) (hl:τ.lock ≤ τ.next):du G lk uw [.str p1] d K fr tk τ = K (fp fr d (.str r)) tk τ :=
 au (zda1 p1 r h τ  hl) (zda1 p1 r h (τ.locked τ.next)  (Nat.le_refl _) ) (by simp only [TT])
def zb39 (p1:ByteArray) (p2:Int) (p3:Int) (p4:Int):Option ByteArray :=
 if p2 < (0:Int) then
  some (⟨#[]⟩:ByteArray)
 else
 if (255:Int) < p2 then
  some (⟨#[]⟩:ByteArray)
 else
 if p3 < (0:Int) then
  some (⟨#[]⟩:ByteArray)
 else
 if (16:Int) ≤ p3 then
  some (⟨#[]⟩:ByteArray)
 else
 if p4 < (0:Int) then
  some (⟨#[]⟩:ByteArray)
 else
 if (1:Int) < p4 then
  some (⟨#[]⟩:ByteArray)
 else
 if ¬ (9223372036854775807 < ((p1.size + (yu [(IntKind.u8.wrap p2),(IntKind.u8.wrap p3),(IntKind.u8.wrap p4)]).size:Nat):Int)) then
  ut (p1 ++ (yu [(IntKind.u8.wrap p2),(IntKind.u8.wrap p3),(IntKind.u8.wrap p4)])) >>= fun y8 =>
  some y8
 else
  none
theorem zda5 (p1:ByteArray) (p2:Int) (p3:Int) (p4:Int) (r:ByteArray) (h:zb39 p1 p2 p3 p4 = some r) (τ:TH) (hl:τ.lock ≤ τ.next):Ru G zb36 [.str p1,.int .i64 p2,.int .i64 p3,.int .i64 p4] τ (.str r) τ:=by
 refine gp fun K hK => ?_
 rw [bc zddm (Nat.le_of_ble_eq_true rfl)]
 unfold zb39 at h
 by_cases c1:p2 < (0:Int)
 · rw [if_pos c1] at h
   injection h with h; subst h
   simp only [zb4a,TT,Ic.t,ci,reduceEqDiff,reduceAdd,reduceCtorEq,c1,LTN]
   exact hK
 rw [if_neg c1] at h
 by_cases c2:(255:Int) < p2
 · rw [if_pos c2] at h
   injection h with h; subst h
   simp only [zb4a,TT,Ic.t,ci,reduceEqDiff,reduceAdd,reduceCtorEq,c1,c2,LTN]
   exact hK
 rw [if_neg c2] at h
 by_cases c3:p3 < (0:Int)
 · rw [if_pos c3] at h
   injection h with h; subst h
   simp only [zb4a,TT,Ic.t,ci,reduceEqDiff,reduceAdd,reduceCtorEq,c1,c2,c3,LTN]
   exact hK
 rw [if_neg c3] at h
 by_cases c4:(16:Int) ≤ p3
 · rw [if_pos c4] at h
   injection h with h; subst h
   simp only [zb4a,TT,Ic.t,ci,reduceEqDiff,reduceAdd,reduceCtorEq,c1,c2,c3,c4,LTN]
   exact hK
 rw [if_neg c4] at h
 by_cases c5:p4 < (0:Int)
 · rw [if_pos c5] at h
   injection h with h; subst h
   simp only [zb4a,TT,Ic.t,ci,reduceEqDiff,reduceAdd,reduceCtorEq,c1,c2,c3,c4,c5,LTN]
   exact hK
 rw [if_neg c5] at h
 by_cases c6:(1:Int) < p4
 · rw [if_pos c6] at h
   injection h with h; subst h
   simp only [zb4a,TT,Ic.t,ci,reduceEqDiff,reduceAdd,reduceCtorEq,c1,c2,c3,c4,c5,c6,LTN]
   exact hK
 rw [if_neg c6] at h
 obtain ⟨c7,h⟩:=ifS h
 obtain ⟨y8,hy8,h⟩:=ob h
 have k9:=zcfc (p1 ++ (yu [(IntKind.u8.wrap p2),(IntKind.u8.wrap p3),(IntKind.u8.wrap p4)])) _ hy8
 try simp only [CL,MC,reduceToNat] at k9
 injection h with h; subst h
 simp only [zb4a,TT,Ic.t,ci,reduceEqDiff,reduceAdd,reduceCtorEq,hl,c1,c2,c3,c4,c5,c6,c7,k9,LTN]
 exact hK
theorem zda4 (p1:ByteArray) (p2:Int) (p3:Int) (p4:Int) (r:ByteArray) (h:zb39 p1 p2 p3 p4 = some r) (lk:Bool) (d:Option Nat) (K:ap) (fr:TF) (tk:TK) (τ:TH) (hl:τ.lock ≤ τ.next):du G lk zb36 [.str p1,.int .i64 p2,.int .i64 p3,.int .i64 p4] d K fr tk τ = K (fp fr d (.str r)) tk τ :=
 au (zda5 p1 p2 p3 p4 r h τ  hl) (zda5 p1 p2 p3 p4 r h (τ.locked τ.next)  (Nat.le_refl _) ) (by simp only [TT])
def g9 (v0:ByteArray) (v1:Int) (v2:ByteArray) (v3:Int):Option (LS (ByteArray × Int) (ByteArray)) :=
 if v3 < (16:Int) then
  zb39 v0 v1 v3 (0:Int) >>= fun y2 =>
  ut y2 >>= fun y4 =>
  if ¬ (9223372036854775807 < ((v2.size + y4.size:Nat):Int)) then
   zb39 v0 v1 v3 (1:Int) >>= fun y7 =>
   ut y7 >>= fun y9 =>
   if ¬ (9223372036854775807 < (((v2 ++ y4).size + y9.size:Nat):Int)) then
    some (.nx (((v2 ++ y4) ++ y9),(IntKind.i64.wrap (v3 + (1:Int)))))
   else
    none
  else
   none
 else
 some (.dn v2)
def xp (v0:ByteArray) (v1:Int) (v2:ByteArray) (v3:Int):Option (ByteArray):=oq (fun st => g9 v0 v1 st.1 st.2) (v2,v3)
theorem zc32 (v0:ByteArray) (v1:Int) (v2:ByteArray) (v3:Int):xp v0 v1 v2 v3 = g9 v0 v1 v2 v3 >>= LS.go (fun st => xp v0 v1 st.1 st.2):=ew (fun st => g9 v0 v1 st.1 st.2) (v2,v3)
def yo (v0:ByteArray) (v1:Int) (v2:ByteArray) (v3:Int) (r:ByteArray):Prop:=∀ (τ:TH) (hl:τ.lock ≤ τ.next) (Q:TEx → ap) (hQ0:∀ (fr:TF) (tk2:TK) (τ2:TH),lkp fr 5 = .str r → tk2.take 0 = [] → τ2.cut τ.next = τ → Q (.exit 0) fr tk2 τ2) ,tW G (.loop [0,1,5,6] zcfl) Q [(0,.str v0),(1,.int .i64 v1),(5,.str v2),(6,.int .i64 v3)] [] τ
theorem zdko (v0:ByteArray) (v1:Int) (v2:ByteArray) (v3:Int) (r:ByteArray) (h:xp v0 v1 v2 v3 = some r):yo v0 v1 v2 v3 r:=by
 refine di (f:=fun st => g9 v0 v1 st.1 st.2) (P:=fun st r => ∀ (v2:ByteArray) (v3:Int),(v2,v3) = st → yo v0 v1 v2 v3 r) ?_ h v2 v3 rfl
 clear h r v3 v2
 intro st o h r ih v2 v3 hst τ  hl Q hQ0
 subst hst
 have h:g9 v0 v1 v2 v3 = some o:=h
 unfold g9 at h
 refine mo fun LQ hn hr he => ?_
 by_cases c1:v3 < (16:Int)
 · rw [if_pos c1] at h
   obtain ⟨y2,hy2,h⟩:=ob h
   have k3:=zda4 v0 v1 v3 (0:Int) _ hy2
   try simp only [CL,MC,reduceToNat] at k3
   obtain ⟨y4,hy4,h⟩:=ob h
   have k5:=zcfc y2 _ hy4
   try simp only [CL,MC,reduceToNat] at k5
   obtain ⟨c6,h⟩:=ifS h
   obtain ⟨y7,hy7,h⟩:=ob h
   have k8:=zda4 v0 v1 v3 (1:Int) _ hy7
   try simp only [CL,MC,reduceToNat] at k8
   obtain ⟨y9,hy9,h⟩:=ob h
   have k10:=zcfc y7 _ hy9
   try simp only [CL,MC,reduceToNat] at k10
   obtain ⟨c11,h⟩:=ifS h
   injection h with h; subst h
   have ih:=ih ((v2 ++ y4) ++ y9) (IntKind.i64.wrap (v3 + (1:Int))) rfl
   unfold yo at ih
   simp only [zcfl,zb8l,TT,Ic.t,ci,reduceEqDiff,reduceCtorEq,hl,c1,k3,k5,c6,k8,k10,c11]
   rw [hn]
   simp only [TT,reduceEqDiff,reduceCtorEq]
   exact ih  τ    (by assumption) Q hQ0
 rw [if_neg c1] at h
 injection h with h; subst h
 obtain rfl:_ = r:=ih
 simp only [zcfl,zb8l,TT,Ic.t,ci,reduceEqDiff,reduceCtorEq,he,c1]
 exact hQ0  _ _ _  (by rfl) (by rfl) (by simp only [TT])
def zb8k (p1:ByteArray) (p2:Int):Option ByteArray :=
 if p2 < (0:Int) then
  some (⟨#[]⟩:ByteArray)
 else
 if (255:Int) < p2 then
  some (⟨#[]⟩:ByteArray)
 else
 xp p1 p2 (⟨#[]⟩:ByteArray) (0:Int) >>= fun y3 =>
 ut y3 >>= fun y5 =>
 some y5
theorem zcxk (p1:ByteArray) (p2:Int) (r:ByteArray) (h:zb8k p1 p2 = some r) (τ:TH) (hl:τ.lock ≤ τ.next):Ru G zb8f [.str p1,.int .i64 p2] τ (.str r) τ:=by
 refine gp fun K hK => ?_
 rw [bc zdd8 (Nat.le_of_ble_eq_true rfl)]
 unfold zb8k at h
 by_cases c1:p2 < (0:Int)
 · rw [if_pos c1] at h
   injection h with h; subst h
   simp only [zb8l,TT,Ic.t,ci,reduceEqDiff,reduceAdd,reduceCtorEq,c1]
   exact hK
 rw [if_neg c1] at h
 by_cases c2:(255:Int) < p2
 · rw [if_pos c2] at h
   injection h with h; subst h
   simp only [zb8l,TT,Ic.t,ci,reduceEqDiff,reduceAdd,reduceCtorEq,c1,c2]
   exact hK
 rw [if_neg c2] at h
 obtain ⟨y3,hy3,h⟩:=ob h
 simp only [zb8l,TT,Ic.t,ci,reduceEqDiff,reduceAdd,reduceCtorEq,c1,c2]
 have Sy3:=zdko p1 p2 (⟨#[]⟩:ByteArray) (0:Int) y3 hy3
 unfold yo at Sy3
 refine Sy3 _ (by assumption) _ ?_
 intro frq4 tkq4 τq4 g5q4 htq4 hcq4
 have hcq4:=dp (n:=τ.next) hcq4 (by omega)
 try simp only [List.take_zero] at htq4
 try simp only [TT] at hcq4
 obtain ⟨y5,hy5,h⟩:=ob h
 have k6:=zcfc y3 _ hy5
 try simp only [CL,MC,reduceToNat] at k6
 injection h with h; subst h
 simp only [TT,Ic.t,hl,g5q4,hcq4,k6]
 exact hK
theorem zdfs (p1:ByteArray) (p2:Int) (r:ByteArray) (h:zb8k p1 p2 = some r) (lk:Bool) (d:Option Nat) (K:ap) (fr:TF) (tk:TK) (τ:TH) (hl:τ.lock ≤ τ.next):du G lk zb8f [.str p1,.int .i64 p2] d K fr tk τ = K (fp fr d (.str r)) tk τ :=
 au (zcxk p1 p2 r h τ  hl) (zcxk p1 p2 r h (τ.locked τ.next)  (Nat.le_refl _) ) (by simp only [TT])
end
end Go.Proofs.Ytjgpklmkdkkooaa
