import Derived.Test.YtjgpklmkdkkooaaM21
set_option linter.unusedVariables false
set_option linter.unusedSimpArgs false
set_option linter.unusedSectionVars false
open Nat (reduceEqDiff reduceAdd reduceMul reduceLT reduceLeDiff reduceSub)
open Int (reduceToNat reduceNe reduceEq reduceNeg reduceLE)
namespace Go.Proofs.Ytjgpklmkdkkooaa
open Go Go.RowKit Sh Ic
noncomputable def z7 (p1:Int) (p2:Int):Option Bool :=
 p9 p1 (0:Int) (IntKind.i64.wrap (p2 - (1:Int))) >>= fun y1 =>
 some (!y1)
theorem zc2e (p1:Int) (p2:Int) (r:Bool) (h:z7 p1 p2 = some r) (τ:TH) (o0:Nat) (hl:τ.lock ≤ τ.next) (ha0:τ.at o0 = some ⟨jy,[.int .i64 p2]⟩) (hi0:o0 < τ.next):Ru G j0 [.int .i64 p1,.ptr o0 0] τ (.bool r) τ:=by
 refine gp fun K hK => ?_
 rw [bc zdi0 (Nat.le_of_ble_eq_true rfl)]
 unfold z7 at h
 obtain ⟨y1,hy1,h⟩:=ob h
 have k2:=sm p1 (0:Int) (IntKind.i64.wrap (p2 - (1:Int))) _ hy1
 try simp only [CL,MC,reduceToNat] at k2
 injection h with h; subst h
 simp only [zdfu,TT,Ic.t,ci,reduceEqDiff,reduceAdd,reduceCtorEq,hl,ha0,k2]
 exact hK
theorem zdkc (p1:Int) (p2:Int) (r:Bool) (h:z7 p1 p2 = some r) (lk:Bool) (d:Option Nat) (K:ap) (fr:TF) (tk:TK) (τ:TH) (o0:Nat) (hl:τ.lock ≤ τ.next) (ha0:τ.at o0 = some ⟨jy,[.int .i64 p2]⟩) (hi0:o0 < τ.next):du G lk j0 [.int .i64 p1,.ptr o0 0] d K fr tk τ = K (fp fr d (.bool r)) tk τ :=
 au (zc2e p1 p2 r h τ o0 hl ha0 hi0) (zc2e p1 p2 r h (τ.locked τ.next) o0 (Nat.le_refl _) (by rw [ww]; exact ha0) hi0) (by simp only [TT,hi0])
noncomputable def bx (v0:(List Int)) (v1:Int) (v2:Int) (v3:Int):Option (LS (Int) (LX (Unit) (Int))) :=
 if v3 < v2 then
  ixL v0 v3 >>= fun y2 =>
  z7 y2 v1 >>= fun y4 =>
  if y4 = true then
   some (.dn (.rt v3))
  else
  some (.nx (IntKind.i64.wrap (v3 + (1:Int))))
 else
 some (.dn (.ex ()))
noncomputable def fg (v0:(List Int)) (v1:Int) (v2:Int) (v3:Int):Option (LX (Unit) (Int)):=oq (fun st => bx v0 v1 v2 st) v3
theorem su (v0:(List Int)) (v1:Int) (v2:Int) (v3:Int):fg v0 v1 v2 v3 = bx v0 v1 v2 v3 >>= LS.go (fun st => fg v0 v1 v2 st):=ew (fun st => bx v0 v1 v2 st) v3
def ji (v0:(List Int)) (v1:Int) (v2:Int) (v3:Int) (r:LX (Unit) (Int)):Prop:=∀ (τ:TH) (o0:Nat) (hl:τ.lock ≤ τ.next) (ha0:τ.at o0 = some ⟨jy,[.int .i64 v1]⟩) (hi0:o0 < τ.next) (Q:TEx → ap) (hQ0:∀ v:Unit,r = (.ex v) → ∀ (fr:TF) (tk2:TK) (τ2:TH),tk2.take 0 = [] → τ2.cut τ.next = τ → Q (.exit 0) fr tk2 τ2) (hQ1:∀ v:Int,r = (.rt v) → ∀ (tk2:TK) (τ2:TH),τ2.cut τ.next = τ → Q .ret [(4,.int .i64 v)] tk2 τ2) ,tW G (.loop [0,1,7,8] ce) Q [(0,.sl (List.map (TV.int .i64) v0)),(1,.func j0 [] [.ptr o0 0]),(7,.int .i64 v2),(8,.int .i64 v3)] [] τ
theorem zdic (v0:(List Int)) (v1:Int) (v2:Int) (v3:Int) (r:LX (Unit) (Int)) (h:fg v0 v1 v2 v3 = some r):ji v0 v1 v2 v3 r:=by
 refine di (f:=fun st => bx v0 v1 v2 st) (P:=fun st r => ∀ (v3:Int),v3 = st → ji v0 v1 v2 v3 r) ?_ h v3 rfl
 clear h r v3
 intro st o h r ih v3 hst τ o0  hl ha0 hi0 Q hQ0 hQ1
 subst hst
 have h:bx v0 v1 v2 v3 = some o:=h
 unfold bx at h
 refine mo fun LQ hn hr he => ?_
 by_cases c1:v3 < v2
 · rw [if_pos c1] at h
   obtain ⟨y2,hy2,h⟩:=ob h
   have f3:=av hy2
   have f3a:=(f3.2.2 (TV.int .i64)).1
   have f3b:=(f3.2.2 (TV.int .i64)).2
   try simp only [CL,MC,reduceToNat] at f3 f3a f3b
   obtain ⟨y4,hy4,h⟩:=ob h
   have k5:=zdkc y2 v1 _ hy4
   try simp only [CL,MC,reduceToNat] at k5
   by_cases c6:y4 = true
   · rw [if_pos c6] at h
     injection h with h; subst h
     obtain rfl:_ = r:=ih
     simp only [ce,bn,TT,Ic.t,ci,reduceEqDiff,reduceCtorEq,hl,ha0,hi0,he,hr,c1,f3.1,f3.2.1,f3a,k5,c6]
     exact hQ1 v3 rfl  _ _  (by simp only [TT])
   rw [if_neg c6] at h
   have c6:=Bool.eq_false_iff.2 c6
   injection h with h; subst h
   have ih:=ih (IntKind.i64.wrap (v3 + (1:Int))) rfl
   unfold ji at ih
   simp only [ce,bn,TT,Ic.t,ci,reduceEqDiff,reduceCtorEq,hl,ha0,hi0,c1,f3.1,f3.2.1,f3a,k5,c6]
   rw [hn]
   simp only [TT,reduceEqDiff,reduceCtorEq,hi0]
   exact ih  τ o0   (by assumption) (by simp only [ha0]) (by assumption) Q hQ0 hQ1
 rw [if_neg c1] at h
 injection h with h; subst h
 obtain rfl:_ = r:=ih
 simp only [ce,bn,TT,Ic.t,ci,reduceEqDiff,reduceCtorEq,he,c1]
 exact hQ0 () rfl  _ _ _   (by rfl) (by simp only [TT])
noncomputable def jl (p1:(List Int)) (p2:Int):Option Int :=
 fg p1 p2 ((p1.length:Nat):Int) (0:Int) >>= fun y1 =>
 match y1 with
 | .ex w2 =>
  some (-1:Int)
 | .rt w4 =>
  some w4
theorem vy (p1:(List Int)) (p2:Int) (r:Int) (h:jl p1 p2 = some r) (τ:TH) (o0:Nat) (hl:τ.lock ≤ τ.next) (ha0:τ.at o0 = some ⟨jy,[.int .i64 p2]⟩) (hi0:o0 < τ.next):Ru G dz [.sl (List.map (TV.int .i64) p1),.func j0 [] [.ptr o0 0]] τ (.int .i64 r) τ:=by
 refine gp fun K hK => ?_
 rw [bc zj (Nat.le_of_ble_eq_true rfl)]
 unfold jl at h
 obtain ⟨y1,hy1,h⟩:=ob h
 simp only [bn,TT,Ic.t,ci,reduceEqDiff,reduceAdd,reduceCtorEq]
 have Sy1:=zdic p1 p2 ((p1.length:Nat):Int) (0:Int) y1 hy1
 unfold ji at Sy1
 refine Sy1 _ o0 (by assumption) (by simp only [ha0]) (by assumption) _ ?_ ?_
 · intro w2 e frq3 tkq3 τq3 htq3 hcq3
   subst e
   simp only at h
   have hcq3:=dp (n:=τ.next) hcq3 (by omega)
   try simp only [List.take_zero] at htq3
   try simp only [TT] at hcq3
   injection h with h; subst h
   simp only [TT,hcq3]
   exact hK
 intro w4 e tkq5 τq5 hcq5
 subst e
 simp only at h
 have hcq5:=dp (n:=τ.next) hcq5 (by omega)
 try simp only [TT] at hcq5
 injection h with h; subst h
 simp only [TT,hcq5]
 exact hK
theorem zdhw (p1:(List Int)) (p2:Int) (r:Int) (h:jl p1 p2 = some r) (lk:Bool) (d:Option Nat) (K:ap) (fr:TF) (tk:TK) (τ:TH) (o0:Nat) (hl:τ.lock ≤ τ.next) (ha0:τ.at o0 = some ⟨jy,[.int .i64 p2]⟩) (hi0:o0 < τ.next):du G lk dz [.sl (List.map (TV.int .i64) p1),.func j0 [] [.ptr o0 0]] d K fr tk τ = K (fp fr d (.int .i64 r)) tk τ :=
 au (vy p1 p2 r h τ o0 hl ha0 hi0) (vy p1 p2 r h (τ.locked τ.next) o0 (Nat.le_refl _) (by rw [ww]; exact ha0) hi0) (by simp only [TT,hi0])
noncomputable def fh (p1:(List Int)) (p2:Int):Option Bool :=
 jl p1 p2 >>= fun y1 =>
 some (decide ((0:Int) ≤ y1))
theorem tm (p1:(List Int)) (p2:Int) (r:Bool) (h:fh p1 p2 = some r) (τ:TH) (o0:Nat) (hl:τ.lock ≤ τ.next) (ha0:τ.at o0 = some ⟨jy,[.int .i64 p2]⟩) (hi0:o0 < τ.next):Ru G cb [.sl (List.map (TV.int .i64) p1),.func j0 [] [.ptr o0 0]] τ (.bool r) τ:=by
 refine gp fun K hK => ?_
 rw [bc ve (Nat.le_of_ble_eq_true rfl)]
 unfold fh at h
 obtain ⟨y1,hy1,h⟩:=ob h
 have k2:=zdhw p1 p2 _ hy1
 try simp only [CL,MC,reduceToNat] at k2
 injection h with h; subst h
 simp only [vg,TT,Ic.t,ci,reduceEqDiff,reduceAdd,reduceCtorEq,hl,ha0,hi0,k2]
 exact hK
theorem zdib (p1:(List Int)) (p2:Int) (r:Bool) (h:fh p1 p2 = some r) (lk:Bool) (d:Option Nat) (K:ap) (fr:TF) (tk:TK) (τ:TH) (o0:Nat) (hl:τ.lock ≤ τ.next) (ha0:τ.at o0 = some ⟨jy,[.int .i64 p2]⟩) (hi0:o0 < τ.next):du G lk cb [.sl (List.map (TV.int .i64) p1),.func j0 [] [.ptr o0 0]] d K fr tk τ = K (fp fr d (.bool r)) tk τ :=
 au (tm p1 p2 r h τ o0 hl ha0 hi0) (tm p1 p2 r h (τ.locked τ.next) o0 (Nat.le_refl _) (by rw [ww]; exact ha0) hi0) (by simp only [TT,hi0])
noncomputable def gy (v0:af) (v1:Int) (v2:Int) (v4:(List aj)) (v5:Int) (v3:(List ByteArray)) (v6:Int):Option (LS ((List ByteArray) × Int) (LX ((List ByteArray)) (Bool))) :=
 if v6 < v5 then
  ixL v4 v6 >>= fun y2 =>
  w9 y2.Account >>= fun y4 =>
  if y4 = true then
   wz y2.Keys v2 (16:Int) >>= fun y7 =>
   if y7 = true then
    if (v3.length + 1) * 16 ≤ 140737488355328 then
     some (.nx ((v3 ++ [y2.Account]),(IntKind.i64.wrap (v6 + (1:Int)))))
    else
     none
   else
   some (.dn (.rt false))
  else
  some (.dn (.rt false))
 else
 some (.dn (.ex v3))
noncomputable def qa (v0:af) (v1:Int) (v2:Int) (v4:(List aj)) (v5:Int) (v3:(List ByteArray)) (v6:Int):Option (LX ((List ByteArray)) (Bool)):=oq (fun st => gy v0 v1 v2 v4 v5 st.1 st.2) (v3,v6)
theorem zc47 (v0:af) (v1:Int) (v2:Int) (v4:(List aj)) (v5:Int) (v3:(List ByteArray)) (v6:Int):qa v0 v1 v2 v4 v5 v3 v6 = gy v0 v1 v2 v4 v5 v3 v6 >>= LS.go (fun st => qa v0 v1 v2 v4 v5 st.1 st.2):=ew (fun st => gy v0 v1 v2 v4 v5 st.1 st.2) (v3,v6)
def yb (v0:af) (v1:Int) (v2:Int) (v4:(List aj)) (v5:Int) (v3:(List ByteArray)) (v6:Int) (r:LX ((List ByteArray)) (Bool)):Prop:=∀ (τ:TH) (o0:Nat) (o1:Nat) (n0:Nat) (ty0:TypeId) (hnn0:n0 = v3.length) (hty0:n0 = 0 ∨ ty0 = a9) (hl:τ.lock ≤ τ.next) (ha0:τ.at o0 = some ⟨bh,v0.cells⟩) (hi0:o0 < τ.next) (ha1:τ.at o1 = some ⟨jy,[.int .i64 v1]⟩) (hi1:o1 < τ.next) (Q:TEx → ap) (hQ0:∀ v:(List ByteArray),r = (.ex v) → ∀ (fr:TF) (tk2:TK) (τ2:TH),∀ (u0:TypeId),(v.length = 0 ∨ u0 = a9) → lkp fr 1 = .ptr o0 0 → lkp fr 3 = .ptr o1 0 → lkp fr 5 = .sla 0 (List.map TV.str v) → tk2.take 1 = [some (v.length,u0)] → τ2.cut τ.next = τ → Q (.exit 0) fr tk2 τ2) (hQ1:∀ v:Bool,r = (.rt v) → ∀ (tk2:TK) (τ2:TH),τ2.cut τ.next = τ → Q .ret [(2,.bool v)] tk2 τ2) ,tW G (.loop [1,3,4,5,59,60,61] vj) Q [(1,.ptr o0 0),(3,.ptr o1 0),(4,.int .i64 v2),(5,.sla 0 (List.map TV.str v3)),(59,.sl (List.map aj.tv v4)),(60,.int .i64 v5),(61,.int .i64 v6)] [some (n0,ty0)] τ
theorem zdkz (v0:af) (v1:Int) (v2:Int) (v4:(List aj)) (v5:Int) (v3:(List ByteArray)) (v6:Int) (r:LX ((List ByteArray)) (Bool)) (h:qa v0 v1 v2 v4 v5 v3 v6 = some r):yb v0 v1 v2 v4 v5 v3 v6 r:=by
 refine di (f:=fun st => gy v0 v1 v2 v4 v5 st.1 st.2) (P:=fun st r => ∀ (v3:(List ByteArray)) (v6:Int),(v3,v6) = st → yb v0 v1 v2 v4 v5 v3 v6 r) ?_ h v3 v6 rfl
 clear h r v6 v3
 intro st o h r ih v3 v6 hst τ o0 o1  n0 ty0 hnn0 hty0 hl ha0 hi0 ha1 hi1 Q hQ0 hQ1
 subst hst
 have h:gy v0 v1 v2 v4 v5 v3 v6 = some o:=h
 unfold gy at h
 subst hnn0
 refine mo fun LQ hn hr he => ?_
 by_cases c1:v6 < v5
 · rw [if_pos c1] at h
   obtain ⟨y2,hy2,h⟩:=ob h
   have f3:=av hy2
   have f3a:=(f3.2.2 aj.tv).1
   have f3b:=(f3.2.2 aj.tv).2
   try simp only [CL] at f3 f3a f3b
   obtain ⟨y4,hy4,h⟩:=ob h
   have k5:=zcju y2.Account _ hy4
   try simp only [CL,MC,reduceToNat] at k5
   by_cases c6:y4 = true
   · rw [if_pos c6] at h
     obtain ⟨y7,hy7,h⟩:=ob h
     have k8:=zczv y2.Keys v2 (16:Int) _ hy7
     try simp only [CL,MC,reduceToNat] at k8
     by_cases c9:y7 = true
     · rw [if_pos c9] at h
       obtain ⟨c10,h⟩:=ifS h
       have f11:1 ≤ maxLen:=by unfold maxLen; omega
       have f12:v3.length + 1 ≤ maxLen:=by unfold maxLen; omega
       have f13:((List.map TV.str v3).all fun e => e.cells.length == 1) = true:=zbwj (fun _ => rfl) _
       have f14:List.map TV.str v3 ++ List.map TV.str [y2.Account] = List.map TV.str (v3 ++ [y2.Account]):=zb2w _ _
       try simp only [List.map_cons,List.map_nil] at f14
       injection h with h; subst h
       have ih:=ih (v3 ++ [y2.Account]) (IntKind.i64.wrap (v6 + (1:Int))) rfl
       unfold yb at ih
       simp only [List.all_cons,List.all_nil,Bool.not_true,and_true,true_and,vj,dy,TT,Ic.t,ci,reduceEqDiff,reduceAdd,reduceLT,reduceLeDiff,reduceCtorEq,hl,hi0,hi1,hty0,c1,f3.1,f3.2.1,f3a,k5,c6,k8,c9,c10,f11,f12,f13,f14]
       rw [hn]
       simp only [TT,reduceEqDiff,reduceLT,hi0,hi1]
       exact ih  τ o0 o1  (v3.length + 1) a9 (by simp []) (by exact Or.inr rfl) (by assumption) (by simp only [ha0,CL]) (by assumption) (by simp only [ha1]) (by assumption) Q hQ0 hQ1
     rw [if_neg c9] at h
     have c9:=Bool.eq_false_iff.2 c9
     injection h with h; subst h
     obtain rfl:_ = r:=ih
     simp only [List.all_cons,List.all_nil,Bool.not_false,Bool.not_true,and_true,true_and,vj,dy,TT,Ic.t,ci,reduceEqDiff,reduceAdd,reduceLT,reduceLeDiff,reduceCtorEq,hl,hi0,hi1,hty0,he,hr,c1,f3.1,f3.2.1,f3a,k5,c6,k8,c9]
     exact hQ1 false rfl  _ _  (by simp only [TT])
   rw [if_neg c6] at h
   have c6:=Bool.eq_false_iff.2 c6
   injection h with h; subst h
   obtain rfl:_ = r:=ih
   simp only [List.all_cons,List.all_nil,Bool.not_false,and_true,true_and,vj,dy,TT,Ic.t,ci,reduceEqDiff,reduceAdd,reduceLT,reduceLeDiff,reduceCtorEq,hl,hi0,hi1,hty0,he,hr,c1,f3.1,f3.2.1,f3a,k5,c6]
   exact hQ1 false rfl  _ _  (by simp only [TT])
 rw [if_neg c1] at h
 injection h with h; subst h
 obtain rfl:_ = r:=ih
 simp only [List.all_cons,List.all_nil,and_true,true_and,vj,dy,TT,Ic.t,ci,reduceEqDiff,reduceAdd,reduceCtorEq,hl,he,c1]
 exact hQ0 v3 rfl  _ _ _ ty0 (by exact hty0) (by rfl) (by rfl) (by rfl) (by rfl) (by simp only [TT])
noncomputable def gx (v0:af) (v1:Int) (v2:(List ByteArray)) (v4:(List ac)) (v5:Int) (v3:(List gj)) (v6:Int):Option (LS ((List gj) × Int) (LX ((List gj)) (Bool))) :=
 if v6 < v5 then
  ixL v4 v6 >>= fun y2 =>
  zb7y (⟨y2.From,y2.To,y2.Ledger,y2.Asset,y2.Amount⟩:ac) v1 >>= fun y4 =>
  if y4 = true then
   if (v3.length + 1) * 16 ≤ 140737488355328 then
    some (.nx ((v3 ++ [(⟨y2.From,y2.To⟩:gj)]),(IntKind.i64.wrap (v6 + (1:Int)))))
   else
    none
  else
  some (.dn (.rt false))
 else
 some (.dn (.ex v3))
noncomputable def ng (v0:af) (v1:Int) (v2:(List ByteArray)) (v4:(List ac)) (v5:Int) (v3:(List gj)) (v6:Int):Option (LX ((List gj)) (Bool)):=oq (fun st => gx v0 v1 v2 v4 v5 st.1 st.2) (v3,v6)
theorem zc48 (v0:af) (v1:Int) (v2:(List ByteArray)) (v4:(List ac)) (v5:Int) (v3:(List gj)) (v6:Int):ng v0 v1 v2 v4 v5 v3 v6 = gx v0 v1 v2 v4 v5 v3 v6 >>= LS.go (fun st => ng v0 v1 v2 v4 v5 st.1 st.2):=ew (fun st => gx v0 v1 v2 v4 v5 st.1 st.2) (v3,v6)
def ya (v0:af) (v1:Int) (v2:(List ByteArray)) (v4:(List ac)) (v5:Int) (v3:(List gj)) (v6:Int) (r:LX ((List gj)) (Bool)):Prop:=∀ (τ:TH) (o0:Nat) (o1:Nat) (n0:Nat) (ty0:TypeId) (hnn0:n0 = v2.length) (hty0:n0 = 0 ∨ ty0 = a9) (n1:Nat) (ty1:TypeId) (hnn1:n1 = v3.length) (hty1:n1 = 0 ∨ ty1 = uc) (hl:τ.lock ≤ τ.next) (ha0:τ.at o0 = some ⟨bh,v0.cells⟩) (hi0:o0 < τ.next) (ha1:τ.at o1 = some ⟨jy,[.int .i64 v1]⟩) (hi1:o1 < τ.next) (Q:TEx → ap) (hQ0:∀ v:(List gj),r = (.ex v) → ∀ (fr:TF) (tk2:TK) (τ2:TH),∀ (u0:TypeId),(v2.length = 0 ∨ u0 = a9) → ∀ (u1:TypeId),(v.length = 0 ∨ u1 = uc) → lkp fr 1 = .ptr o0 0 → lkp fr 3 = .ptr o1 0 → lkp fr 5 = .sla 0 (List.map TV.str v2) → lkp fr 8 = .sla 1 (List.map gj.tv v) → tk2.take 2 = [some (v2.length,u0),some (v.length,u1)] → τ2.cut τ.next = τ → Q (.exit 2) fr tk2 τ2) (hQ1:∀ v:Bool,r = (.rt v) → ∀ (tk2:TK) (τ2:TH),τ2.cut τ.next = τ → Q .ret [(2,.bool v)] tk2 τ2) ,tW G (.loop [1,3,5,8,83,84,85] z9) Q [(1,.ptr o0 0),(3,.ptr o1 0),(5,.sla 0 (List.map TV.str v2)),(8,.sla 1 (List.map gj.tv v3)),(83,.sl (List.map ac.tv v4)),(84,.int .i64 v5),(85,.int .i64 v6)] [some (n0,ty0),some (n1,ty1)] τ
theorem zdk0 (v0:af) (v1:Int) (v2:(List ByteArray)) (v4:(List ac)) (v5:Int) (v3:(List gj)) (v6:Int) (r:LX ((List gj)) (Bool)) (h:ng v0 v1 v2 v4 v5 v3 v6 = some r):ya v0 v1 v2 v4 v5 v3 v6 r:=by
 refine di (f:=fun st => gx v0 v1 v2 v4 v5 st.1 st.2) (P:=fun st r => ∀ (v3:(List gj)) (v6:Int),(v3,v6) = st → ya v0 v1 v2 v4 v5 v3 v6 r) ?_ h v3 v6 rfl
 clear h r v6 v3
 intro st o h r ih v3 v6 hst τ o0 o1  n0 ty0 hnn0 hty0 n1 ty1 hnn1 hty1 hl ha0 hi0 ha1 hi1 Q hQ0 hQ1
 subst hst
 have h:gx v0 v1 v2 v4 v5 v3 v6 = some o:=h
 unfold gx at h
 subst hnn0
 subst hnn1
 refine mo fun LQ hn hr he => ?_
 by_cases c1:v6 < v5
 · rw [if_pos c1] at h
   obtain ⟨y2,hy2,h⟩:=ob h
   have f3:=av hy2
   have f3a:=(f3.2.2 ac.tv).1
   have f3b:=(f3.2.2 ac.tv).2
   try simp only [CL] at f3 f3a f3b
   obtain ⟨y4,hy4,h⟩:=ob h
   have k5:=zdew (⟨y2.From,y2.To,y2.Ledger,y2.Asset,y2.Amount⟩:ac) v1 _ hy4
   try simp only [CL] at k5
   by_cases c6:y4 = true
   · rw [if_pos c6] at h
     obtain ⟨c7,h⟩:=ifS h
     have f8:1 ≤ maxLen:=by unfold maxLen; omega
     have f9:v3.length + 1 ≤ maxLen:=by unfold maxLen; omega
     have f10:((List.map gj.tv v3).all fun e => e.cells.length == 2) = true:=zbwj (fun _ => rfl) _
     have f11:List.map gj.tv v3 ++ List.map gj.tv [(⟨y2.From,y2.To⟩:gj)] = List.map gj.tv (v3 ++ [(⟨y2.From,y2.To⟩:gj)]):=zb2w _ _
     try simp only [CL,List.map_cons,List.map_nil] at f11
     injection h with h; subst h
     have ih:=ih (v3 ++ [(⟨y2.From,y2.To⟩:gj)]) (IntKind.i64.wrap (v6 + (1:Int))) rfl
     unfold ya at ih
     simp only [List.all_cons,List.all_nil,Bool.not_true,and_true,true_and,z9,dy,TT,Ic.t,ci,reduceEqDiff,reduceAdd,reduceLT,reduceLeDiff,reduceCtorEq,hl,hi0,ha1,hi1,hty1,c1,f3.1,f3.2.1,f3a,k5,c6,c7,f8,f9,f10,f11]
     rw [hn]
     simp only [TT,reduceEqDiff,reduceAdd,reduceLT,hi0,hi1]
     exact ih  τ o0 o1  _ ty0 (by rfl) (by exact hty0) (v3.length + 1) uc (by simp []) (by exact Or.inr rfl) (by assumption) (by simp only [ha0,CL]) (by assumption) (by simp only [ha1]) (by assumption) Q hQ0 hQ1
   rw [if_neg c6] at h
   have c6:=Bool.eq_false_iff.2 c6
   injection h with h; subst h
   obtain rfl:_ = r:=ih
   simp only [List.all_cons,List.all_nil,Bool.not_false,and_true,true_and,z9,dy,TT,Ic.t,ci,reduceEqDiff,reduceAdd,reduceLT,reduceLeDiff,reduceCtorEq,hl,hi0,ha1,hi1,hty1,he,hr,c1,f3.1,f3.2.1,f3a,k5,c6]
   exact hQ1 false rfl  _ _  (by simp only [TT])
 rw [if_neg c1] at h
 injection h with h; subst h
 obtain rfl:_ = r:=ih
 simp only [List.all_cons,List.all_nil,and_true,true_and,z9,dy,TT,Ic.t,ci,reduceEqDiff,reduceAdd,reduceCtorEq,hl,ha1,hi1,he,c1]
 exact hQ0 v3 rfl  _ _ _ ty0 (by exact hty0) ty1 (by exact hty1) (by rfl) (by rfl) (by rfl) (by rfl) (by rfl) (by simp only [TT])
noncomputable def rn (p1:af):Option Bool :=
 w9 p1.ID >>= fun y1 =>
 if y1 = true then
  p9 ((p1.Parties.length:Nat):Int) (2:Int) (6:Int) >>= fun y4 =>
  if y4 = true then
   p9 ((p1.Leaders.length:Nat):Int) (1:Int) (3:Int) >>= fun y7 =>
   if y7 = true then
    p9 ((p1.Arcs.length:Nat):Int) (1:Int) (12:Int) >>= fun y10 =>
    if y10 = true then
     wz p1.Locks ((p1.Leaders.length:Nat):Int) (32:Int) >>= fun y13 =>
     if y13 = true then
      p9 p1.Start (0:Int) (1099511627776:Int) >>= fun y16 =>
      if y16 = true then
       p9 p1.Delta (1:Int) (1048576:Int) >>= fun y19 =>
       if y19 = true then
        qa p1 ((p1.Parties.length:Nat):Int) ((p1.Leaders.length:Nat):Int) p1.Parties ((p1.Parties.length:Nat):Int) [] (0:Int) >>= fun y22 =>
        match y22 with
        | .ex w23 =>
         ng p1 ((p1.Parties.length:Nat):Int) w23 p1.Arcs ((p1.Arcs.length:Nat):Int) [] (0:Int) >>= fun y27 =>
         match y27 with
         | .ex w28 =>
          rm w23 >>= fun y32 =>
          if y32 = true then
           x8 w28 >>= fun y35 =>
           if y35 = true then
            zcfv p1.Leaders >>= fun y38 =>
            if y38 = true then
             fh p1.Leaders ((p1.Parties.length:Nat):Int) >>= fun y41 =>
             some (!y41)
            else
            some false
           else
           some false
          else
          some false
         | .rt w30 =>
          some w30
        | .rt w25 =>
         some w25
       else
       some false
      else
      some false
     else
     some false
    else
    some false
   else
   some false
  else
  some false
 else
 some false
theorem zczu (p1:af) (r:Bool) (h:rn p1 = some r) (τ:TH) (hl:τ.lock ≤ τ.next):Ru G sb [.agg p1.cells] τ (.bool r) τ:=by
 refine gp fun K hK => ?_
 rw [bc zdef (Nat.le_of_ble_eq_true rfl)]
 unfold rn at h
 obtain ⟨y1,hy1,h⟩:=ob h
 have k2:=zcju p1.ID _ hy1
 try simp only [CL,MC,reduceToNat] at k2
 by_cases c3:y1 = true
 · rw [if_pos c3] at h
   obtain ⟨y4,hy4,h⟩:=ob h
   have k5:=sm ((p1.Parties.length:Nat):Int) (2:Int) (6:Int) _ hy4
   try simp only [CL,MC,reduceToNat] at k5
   by_cases c6:y4 = true
   · rw [if_pos c6] at h
     obtain ⟨y7,hy7,h⟩:=ob h
     have k8:=sm ((p1.Leaders.length:Nat):Int) (1:Int) (3:Int) _ hy7
     try simp only [CL,MC,reduceToNat] at k8
     by_cases c9:y7 = true
     · rw [if_pos c9] at h
       obtain ⟨y10,hy10,h⟩:=ob h
       have k11:=sm ((p1.Arcs.length:Nat):Int) (1:Int) (12:Int) _ hy10
       try simp only [CL,MC,reduceToNat] at k11
       by_cases c12:y10 = true
       · rw [if_pos c12] at h
         obtain ⟨y13,hy13,h⟩:=ob h
         have k14:=zczv p1.Locks ((p1.Leaders.length:Nat):Int) (32:Int) _ hy13
         try simp only [CL,MC,reduceToNat] at k14
         by_cases c15:y13 = true
         · rw [if_pos c15] at h
           obtain ⟨y16,hy16,h⟩:=ob h
           have k17:=sm p1.Start (0:Int) (1099511627776:Int) _ hy16
           try simp only [CL,MC,reduceToNat] at k17
           by_cases c18:y16 = true
           · rw [if_pos c18] at h
             obtain ⟨y19,hy19,h⟩:=ob h
             have k20:=sm p1.Delta (1:Int) (1048576:Int) _ hy19
             try simp only [CL,MC,reduceToNat] at k20
             by_cases c21:y19 = true
             · rw [if_pos c21] at h
               obtain ⟨y22,hy22,h⟩:=ob h
               simp only [jg,List.isEmpty_cons,ei,tD,pnK,kj,gq,List.filter_cons,List.filter_nil,List.filterMap_cons,List.filterMap_nil,bg,dg,mf,dm,Ins.dsts,Ins.looks,I.ops,pt,ta,List.all_cons,List.all_nil,List.any_cons,List.any_nil,List.contains_cons,List.contains_nil,List.append_nil,List.nil_append,List.cons_append,Option.toList_some,Option.isSome_some,Option.isSome_none,Bool.and_true,Bool.true_and,Bool.or_false,Bool.not_false,Bool.not_true,and_true,true_and,and_false,Nat.reduceBEq,bne_iff_ne,dy,TT,Ic.t,ci,reduceEqDiff,reduceAdd,reduceLT,reduceCtorEq,hl,k2,c3,k5,c6,k8,c9,k11,c12,k14,c15,k17,c18,k20,c21,CL]
               have Sy22:=zdkz p1 ((p1.Parties.length:Nat):Int) ((p1.Leaders.length:Nat):Int) p1.Parties ((p1.Parties.length:Nat):Int) [] (0:Int) y22 hy22
               unfold yb at Sy22
               refine Sy22 _ τ.next (τ.next + 1) 0 0 (by rfl) (by exact Or.inl rfl) (by simp only [ak,aq]; omega) (by simp only [TT,reduceLT,CL]) (by simp only [ak]; omega) (by simp only [TT]) (by simp only [ak]; omega) _ ?_ ?_
               · intro w23 e frq24 tkq24 τq24 u0q24 uh0q24 g1q24 g3q24 g5q24 htq24 hcq24
                 subst e
                 simp only at h
                 have hcq24:=dp (n:=τ.next + 2) hcq24 (by simp only [ak]; omega)
                 try simp only [List.take_succ_cons,List.take_zero,List.take_nil,CL] at htq24
                 try simp only [TT,reduceAdd] at hcq24
                 obtain ⟨y27,hy27,h⟩:=ob h
                 simp only [List.nil_append,List.cons_append,TT,Ic.t,reduceEqDiff,reduceAdd,reduceLT,g1q24,g3q24,g5q24,htq24,hcq24]
                 have Sy27:=zdk0 p1 ((p1.Parties.length:Nat):Int) w23 p1.Arcs ((p1.Arcs.length:Nat):Int) [] (0:Int) y27 hy27
                 unfold ya at Sy27
                 refine Sy27 _ τ.next (τ.next + 1) w23.length u0q24 (by rfl) (by assumption) 0 0 (by rfl) (by exact Or.inl rfl) (by simp only [ak,aq]; omega) (by simp only [TT,reduceLT,CL]) (by simp only [ak]; omega) (by simp only [TT]) (by simp only [ak]; omega) _ ?_ ?_
                 · intro w28 e frq29 tkq29 τq29 u0q29 uh0q29 u1q29 uh1q29 g1q29 g3q29 g5q29 g8q29 htq29 hcq29
                   subst e
                   simp only at h
                   have hcq29:=dp (n:=τ.next + 2) hcq29 (by simp only [ak]; omega)
                   try simp only [List.take_succ_cons,List.take_zero,List.take_nil,CL] at htq29
                   try simp only [TT,reduceAdd] at hcq29
                   obtain ⟨y32,hy32,h⟩:=ob h
                   have k33:=zdgl w23 _ hy32
                   try simp only [CL,MC,reduceToNat] at k33
                   by_cases c34:y32 = true
                   · rw [if_pos c34] at h
                     obtain ⟨y35,hy35,h⟩:=ob h
                     have k36:=zdgd w28 _ hy35
                     try simp only [CL,MC,reduceToNat] at k36
                     by_cases c37:y35 = true
                     · rw [if_pos c37] at h
                       obtain ⟨y38,hy38,h⟩:=ob h
                       have k39:=zdk1 p1.Leaders _ hy38
                       try simp only [CL,MC,reduceToNat] at k39
                       by_cases c40:y38 = true
                       · rw [if_pos c40] at h
                         obtain ⟨y41,hy41,h⟩:=ob h
                         have k42:=zdib p1.Leaders ((p1.Parties.length:Nat):Int) _ hy41
                         try simp only [CL,MC,reduceToNat] at k42
                         injection h with h; subst h
                         simp only [true_and,TT,Ic.t,reduceEqDiff,reduceAdd,reduceLT,hl,g1q29,g3q29,g5q29,g8q29,htq29,hcq29,k33,c34,k36,c37,k39,c40,k42]
                         first | exact hK | (simp only [hl,k2,c3,k5,c6,k8,c9,k11,c12,k14,c15,k17,c18,k20,c21,uh0q24,g1q24,g3q24,g5q24,htq24,hcq24,uh0q29,uh1q29,g1q29,g3q29,g5q29,g8q29,htq29,hcq29,k33,c34,k36,c37,k39,c40,k42,CL] at hK; exact hK)
                       rw [if_neg c40] at h
                       have c40:=Bool.eq_false_iff.2 c40
                       injection h with h; subst h
                       simp only [true_and,TT,Ic.t,reduceEqDiff,reduceAdd,reduceLT,hl,g1q29,g3q29,g5q29,g8q29,htq29,hcq29,k33,c34,k36,c37,k39,c40]
                       first | exact hK | (simp only [hl,k2,c3,k5,c6,k8,c9,k11,c12,k14,c15,k17,c18,k20,c21,uh0q24,g1q24,g3q24,g5q24,htq24,hcq24,uh0q29,uh1q29,g1q29,g3q29,g5q29,g8q29,htq29,hcq29,k33,c34,k36,c37,k39,c40,CL] at hK; exact hK)
                     rw [if_neg c37] at h
                     have c37:=Bool.eq_false_iff.2 c37
                     injection h with h; subst h
                     simp only [true_and,TT,Ic.t,reduceEqDiff,reduceAdd,reduceLT,hl,g1q29,g3q29,g5q29,g8q29,htq29,hcq29,k33,c34,k36,c37]
                     first | exact hK | (simp only [hl,k2,c3,k5,c6,k8,c9,k11,c12,k14,c15,k17,c18,k20,c21,uh0q24,g1q24,g3q24,g5q24,htq24,hcq24,uh0q29,uh1q29,g1q29,g3q29,g5q29,g8q29,htq29,hcq29,k33,c34,k36,c37,CL] at hK; exact hK)
                   rw [if_neg c34] at h
                   have c34:=Bool.eq_false_iff.2 c34
                   injection h with h; subst h
                   simp only [true_and,TT,Ic.t,reduceEqDiff,reduceAdd,reduceLT,hl,g1q29,g3q29,g5q29,g8q29,htq29,hcq29,k33,c34]
                   first | exact hK | (simp only [hl,k2,c3,k5,c6,k8,c9,k11,c12,k14,c15,k17,c18,k20,c21,uh0q24,g1q24,g3q24,g5q24,htq24,hcq24,uh0q29,uh1q29,g1q29,g3q29,g5q29,g8q29,htq29,hcq29,k33,c34,CL] at hK; exact hK)
                 intro w30 e tkq31 τq31 hcq31
                 subst e
                 simp only at h
                 have hcq31:=dp (n:=τ.next) hcq31 (by simp only [ak]; omega)
                 try simp only [TT] at hcq31
                 injection h with h; subst h
                 simp only [true_and,TT,hcq31]
                 first | exact hK | (simp only [hl,k2,c3,k5,c6,k8,c9,k11,c12,k14,c15,k17,c18,k20,c21,uh0q24,g1q24,g3q24,g5q24,htq24,hcq24,hcq31,CL] at hK; exact hK)
               intro w25 e tkq26 τq26 hcq26
               subst e
               simp only at h
               have hcq26:=dp (n:=τ.next) hcq26 (by simp only [ak]; omega)
               try simp only [TT] at hcq26
               injection h with h; subst h
               simp only [true_and,TT,hcq26]
               first | exact hK | (simp only [hl,k2,c3,k5,c6,k8,c9,k11,c12,k14,c15,k17,c18,k20,c21,hcq26,CL] at hK; exact hK)
             rw [if_neg c21] at h
             have c21:=Bool.eq_false_iff.2 c21
             injection h with h; subst h
             simp only [jg,List.isEmpty_cons,ei,tD,pnK,kj,gq,List.filter_cons,List.filter_nil,List.filterMap_cons,List.filterMap_nil,bg,dg,mf,dm,Ins.dsts,Ins.looks,I.ops,pt,ta,List.all_cons,List.all_nil,List.any_cons,List.any_nil,List.contains_cons,List.contains_nil,List.append_nil,List.nil_append,List.cons_append,Option.toList_some,Option.isSome_some,Option.isSome_none,Bool.and_true,Bool.true_and,Bool.or_false,Bool.not_false,Bool.not_true,and_true,true_and,and_false,Nat.reduceBEq,bne_iff_ne,dy,TT,Ic.t,ci,reduceEqDiff,reduceAdd,reduceLT,reduceCtorEq,hl,k2,c3,k5,c6,k8,c9,k11,c12,k14,c15,k17,c18,k20,c21,CL]
             first | exact hK | (simp only [hl,k2,c3,k5,c6,k8,c9,k11,c12,k14,c15,k17,c18,k20,c21,CL] at hK; exact hK)
           rw [if_neg c18] at h
           have c18:=Bool.eq_false_iff.2 c18
           injection h with h; subst h
           simp only [jg,List.isEmpty_cons,ei,tD,pnK,kj,gq,List.filter_cons,List.filter_nil,List.filterMap_cons,List.filterMap_nil,bg,dg,mf,dm,Ins.dsts,Ins.looks,I.ops,pt,ta,List.all_cons,List.all_nil,List.any_cons,List.any_nil,List.contains_cons,List.contains_nil,List.append_nil,List.nil_append,List.cons_append,Option.toList_some,Option.isSome_some,Option.isSome_none,Bool.and_true,Bool.true_and,Bool.or_false,Bool.not_false,Bool.not_true,and_true,true_and,and_false,Nat.reduceBEq,bne_iff_ne,dy,TT,Ic.t,ci,reduceEqDiff,reduceAdd,reduceLT,reduceCtorEq,hl,k2,c3,k5,c6,k8,c9,k11,c12,k14,c15,k17,c18,CL]
           first | exact hK | (simp only [hl,k2,c3,k5,c6,k8,c9,k11,c12,k14,c15,k17,c18,CL] at hK; exact hK)
         rw [if_neg c15] at h
         have c15:=Bool.eq_false_iff.2 c15
         injection h with h; subst h
         simp only [jg,List.isEmpty_cons,ei,tD,pnK,kj,gq,List.filter_cons,List.filter_nil,List.filterMap_cons,List.filterMap_nil,bg,dg,mf,dm,Ins.dsts,Ins.looks,I.ops,pt,ta,List.all_cons,List.all_nil,List.any_cons,List.any_nil,List.contains_cons,List.contains_nil,List.append_nil,List.nil_append,List.cons_append,Option.toList_some,Option.isSome_some,Option.isSome_none,Bool.and_true,Bool.true_and,Bool.or_false,Bool.not_false,Bool.not_true,and_true,true_and,and_false,Nat.reduceBEq,bne_iff_ne,dy,TT,Ic.t,ci,reduceEqDiff,reduceAdd,reduceLT,reduceCtorEq,hl,k2,c3,k5,c6,k8,c9,k11,c12,k14,c15,CL]
         first | exact hK | (simp only [hl,k2,c3,k5,c6,k8,c9,k11,c12,k14,c15,CL] at hK; exact hK)
       rw [if_neg c12] at h
       have c12:=Bool.eq_false_iff.2 c12
       injection h with h; subst h
       simp only [jg,List.isEmpty_cons,ei,tD,pnK,kj,gq,List.filter_cons,List.filter_nil,List.filterMap_cons,List.filterMap_nil,bg,dg,mf,dm,Ins.dsts,Ins.looks,I.ops,pt,ta,List.all_cons,List.all_nil,List.any_cons,List.any_nil,List.contains_cons,List.contains_nil,List.append_nil,List.nil_append,List.cons_append,Option.toList_some,Option.isSome_some,Option.isSome_none,Bool.and_true,Bool.true_and,Bool.or_false,Bool.not_false,Bool.not_true,and_true,true_and,and_false,Nat.reduceBEq,bne_iff_ne,dy,TT,Ic.t,ci,reduceEqDiff,reduceAdd,reduceLT,reduceCtorEq,hl,k2,c3,k5,c6,k8,c9,k11,c12,CL]
       first | exact hK | (simp only [hl,k2,c3,k5,c6,k8,c9,k11,c12,CL] at hK; exact hK)
     rw [if_neg c9] at h
     have c9:=Bool.eq_false_iff.2 c9
     injection h with h; subst h
     simp only [jg,List.isEmpty_cons,ei,tD,pnK,kj,gq,List.filter_cons,List.filter_nil,List.filterMap_cons,List.filterMap_nil,bg,dg,mf,dm,Ins.dsts,Ins.looks,I.ops,pt,ta,List.all_cons,List.all_nil,List.any_cons,List.any_nil,List.contains_cons,List.contains_nil,List.append_nil,List.nil_append,List.cons_append,Option.toList_some,Option.isSome_some,Option.isSome_none,Bool.and_true,Bool.true_and,Bool.or_false,Bool.not_false,Bool.not_true,and_true,true_and,and_false,Nat.reduceBEq,bne_iff_ne,dy,TT,Ic.t,ci,reduceEqDiff,reduceAdd,reduceLT,reduceCtorEq,hl,k2,c3,k5,c6,k8,c9,CL]
     first | exact hK | (simp only [hl,k2,c3,k5,c6,k8,c9,CL] at hK; exact hK)
   rw [if_neg c6] at h
   have c6:=Bool.eq_false_iff.2 c6
   injection h with h; subst h
   simp only [jg,List.isEmpty_cons,ei,tD,pnK,kj,gq,List.filter_cons,List.filter_nil,List.filterMap_cons,List.filterMap_nil,bg,dg,mf,dm,Ins.dsts,Ins.looks,I.ops,pt,ta,List.all_cons,List.all_nil,List.any_cons,List.any_nil,List.contains_cons,List.contains_nil,List.append_nil,List.nil_append,List.cons_append,Option.toList_some,Option.isSome_some,Option.isSome_none,Bool.and_true,Bool.true_and,Bool.or_false,Bool.not_false,Bool.not_true,and_true,true_and,and_false,Nat.reduceBEq,bne_iff_ne,dy,TT,Ic.t,ci,reduceEqDiff,reduceAdd,reduceLT,reduceCtorEq,hl,k2,c3,k5,c6,CL]
   first | exact hK | (simp only [hl,k2,c3,k5,c6,CL] at hK; exact hK)
 rw [if_neg c3] at h
 have c3:=Bool.eq_false_iff.2 c3
 injection h with h; subst h
 simp only [jg,List.isEmpty_cons,ei,tD,pnK,kj,gq,List.filter_cons,List.filter_nil,List.filterMap_cons,List.filterMap_nil,bg,dg,mf,dm,Ins.dsts,Ins.looks,I.ops,pt,ta,List.all_cons,List.all_nil,List.any_cons,List.any_nil,List.contains_cons,List.contains_nil,List.append_nil,List.nil_append,List.cons_append,Option.toList_some,Option.isSome_some,Option.isSome_none,Bool.and_true,Bool.true_and,Bool.or_false,Bool.not_false,and_true,true_and,and_false,Nat.reduceBEq,bne_iff_ne,dy,TT,Ic.t,ci,reduceEqDiff,reduceAdd,reduceLT,reduceCtorEq,hl,k2,c3,CL]
 first | exact hK | (simp only [hl,k2,c3,CL] at hK; exact hK)
theorem zcfr (p1:af) (r:Bool) (h:rn p1 = some r) (lk:Bool) (d:Option Nat) (K:ap) (fr:TF) (tk:TK) (τ:TH) (hl:τ.lock ≤ τ.next):du G lk sb [.agg p1.cells] d K fr tk τ = K (fp fr d (.bool r)) tk τ :=
 au (zczu p1 r h τ  hl) (zczu p1 r h (τ.locked τ.next)  (Nat.le_refl _) ) (by simp only [TT,CL])
noncomputable def ph (p1:af) (p2:Int):Option Bool :=
 rn p1 >>= fun y1 =>
 if y1 = true then
  if (0:Int) ≤ p2 then
   some (decide (p2 < ((p1.Locks.length:Nat):Int)))
  else
  some false
 else
 some false
theorem zc1p (p1:af) (p2:Int) (r:Bool) (h:ph p1 p2 = some r) (τ:TH) (hl:τ.lock ≤ τ.next):Ru G pm [.agg p1.cells,.int .i64 p2] τ (.bool r) τ:=by
 refine gp fun K hK => ?_
 rw [bc zdf9 (Nat.le_of_ble_eq_true rfl)]
 unfold ph at h
 obtain ⟨y1,hy1,h⟩:=ob h
 have k2:=zcfr p1 _ hy1
 try simp only [CL] at k2
 by_cases c3:y1 = true
 · rw [if_pos c3] at h
   by_cases c4:(0:Int) ≤ p2
   · rw [if_pos c4] at h
     injection h with h; subst h
     simp only [zckm,TT,Ic.t,ci,reduceEqDiff,reduceAdd,reduceCtorEq,hl,k2,c3,c4,CL]
     first | exact hK | (simp only [hl,k2,c3,c4,CL] at hK; exact hK)
   rw [if_neg c4] at h
   injection h with h; subst h
   simp only [zckm,TT,Ic.t,ci,reduceEqDiff,reduceAdd,reduceCtorEq,hl,k2,c3,c4,CL]
   first | exact hK | (simp only [hl,k2,c3,c4,CL] at hK; exact hK)
 rw [if_neg c3] at h
 have c3:=Bool.eq_false_iff.2 c3
 injection h with h; subst h
 simp only [zckm,TT,Ic.t,ci,reduceEqDiff,reduceAdd,reduceCtorEq,hl,k2,c3,CL]
 first | exact hK | (simp only [hl,k2,c3,CL] at hK; exact hK)
theorem zc50 (p1:af) (p2:Int) (r:Bool) (h:ph p1 p2 = some r) (lk:Bool) (d:Option Nat) (K:ap) (fr:TF) (tk:TK) (τ:TH) (hl:τ.lock ≤ τ.next):du G lk pm [.agg p1.cells,.int .i64 p2] d K fr tk τ = K (fp fr d (.bool r)) tk τ :=
 au (zc1p p1 p2 r h τ  hl) (zc1p p1 p2 r h (τ.locked τ.next)  (Nat.le_refl _) ) (by simp only [TT,CL])
noncomputable def zb4e (p1:Int):Option Bool :=
 if (0:Int) ≤ p1 then
  some (decide (p1 ≤ (255:Int)))
 else
 some false
theorem zcxe (p1:Int) (r:Bool) (h:zb4e p1 = some r) (τ:TH) (hl:τ.lock ≤ τ.next):Ru G zb38 [.int .i64 p1] τ (.bool r) τ:=by
 refine gp fun K hK => ?_
 rw [bc zdc1 (Nat.le_of_ble_eq_true rfl)]
 unfold zb4e at h
 by_cases c1:(0:Int) ≤ p1
 · rw [if_pos c1] at h
   injection h with h; subst h
   simp only [zc7f,TT,Ic.t,ci,reduceEqDiff,reduceCtorEq,c1]
   exact hK
 rw [if_neg c1] at h
 injection h with h; subst h
 simp only [zc7f,TT,Ic.t,ci,reduceEqDiff,reduceCtorEq,c1]
 exact hK
theorem zcxd (p1:Int) (r:Bool) (h:zb4e p1 = some r) (lk:Bool) (d:Option Nat) (K:ap) (fr:TF) (tk:TK) (τ:TH) (hl:τ.lock ≤ τ.next):du G lk zb38 [.int .i64 p1] d K fr tk τ = K (fp fr d (.bool r)) tk τ :=
 au (zcxe p1 r h τ  hl) (zcxe p1 r h (τ.locked τ.next)  (Nat.le_refl _) ) (by simp only [TT])
end Go.Proofs.Ytjgpklmkdkkooaa
open Nat (reduceEqDiff reduceAdd reduceMul reduceLT reduceLeDiff reduceSub)
open Int (reduceToNat reduceNe reduceEq reduceNeg reduceLE)
namespace Go.Proofs.Ytjgpklmkdkkooaa
open Go Go.RowKit Sh Ic
def a8 (id:Nat) (u:Bool) (b:ByteArray):Ob:=⟨bz,bif u then [.ptr id 0,.slo dv (dd b)] else [.nilP,.slz]⟩
theorem zdfw (a b:ByteArray):dd (a ++ b) = dd a ++ dd b:=by
 unfold dd
 rw [ByteArray.data_append]
 simp
theorem zb79 (a:ByteArray):(dd a).length = a.size:=by unfold dd; simp
theorem zdcd (a:ByteArray):((dd a).all fun e => e.cells.length == 1 && e.pure) = true:=by
 unfold dd; rw [List.all_map,List.all_eq_true]; intro x _; rfl
theorem zc82 (a:ByteArray):((dd a).all fun e => e.cells.length == 1) = true:=by
 unfold dd; rw [List.all_map,List.all_eq_true]; intro x _; rfl
theorem zbqf (a:ByteArray):(dd a).all okB = true:=by
 unfold dd; rw [List.all_map,List.all_eq_true]; intro x _
 have:=x.toNat_lt
 simp only [Function.comp,okB,Bool.and_eq_true,decide_eq_true_eq]
 omega
theorem zde3 (a:ByteArray):wx (dd a) = some a.data.toList:=by
 have:∀ l:List UInt8,wx (l.map fun b => TV.int .u8 b.toNat) = some l:=fun l => by
  induction l with
  | nil => rfl
  | cons b r ih => simp only [List.map_cons,wx,ih,Option.map_some]; simp
 exact this _
theorem zch6 {a:ByteArray} (h:a.size = 0):dd a = []:=List.eq_nil_of_length_eq_zero (by rw [zb79,h])
theorem zcdw (id:Nat) (c0 c1:TV) (d:Option Nat) (K:ap) (fr:TF) (tk:TK) (τ:TH) (ha:τ.at id = some ⟨bz,[c0,c1]⟩) (hi:id < τ.next) (hw:τ.lock ≤ id) (hc:c0 = .nilP ∨ c0 = .ptr id 0) :
 du G false dt [.ptr id 0] d K fr tk τ = K (fp fr d (.tup [])) tk (τ.put id ⟨bz,[.ptr id 0,c1]⟩):=by
 refine zbz3 (zcai zdhv ?_) (by simp only [TT,hi])
 rcases hc with rfl | rfl
 · simp only [zb7k,ha,Option.bind_some,true_and,if_true,hw]
 · simp only [zb7k,ha,Option.bind_some,true_and,if_true,jj ha]
theorem zb4i (id:Nat) (b:ByteArray):a8 id true b = ⟨bz,[.ptr id 0,.slo dv (dd b)]⟩:=rfl
theorem bu (id:Nat) (b:ByteArray):a8 id false b = ⟨bz,[.nilP,.slz]⟩:=rfl
section
variable (b:ByteArray) (id:Nat) (u:Bool) (d:Option Nat) (K:ap) (fr:TF) (tk:TK) (τ:TH) (ha:τ.at id = some (a8 id u b)) (hi:id < τ.next) (hw:τ.lock ≤ id) (hl:τ.lock ≤ τ.next) (hu:u = true ∨ b.size = 0)
include ha hi hw hl hu
theorem yn (s:ByteArray) (hb:b.size + s.size ≤ 140737488355328):du G false bk [.ptr id 0,.str s] d K fr tk τ = K (fp fr d (.tup [.int .i64 ((s.size:Nat):Int),.nilI])) tk (τ.put id (a8 id true (b ++ s))):=by
 refine zbz3 (gp fun K hK => ?_) (by simp only [TT,hi])
 rw [bc zdh3 (Nat.le_of_ble_eq_true rfl)]
 have m1:s.size ≤ 140737488355328:=by omega
 have m2:s.size ≤ maxLen:=by unfold maxLen; omega
 have m4:b.size + s.size ≤ maxLen:=by unfold maxLen; omega
 have al:=zdcd s
 have al1:=zc82 b
 have bl:=zb79
 rw [zb4i,zdfw] at hK
 cases u with
 | true =>
  rw [zb4i] at ha
  have ck:=fun (c0 c1:TV) (d:Option Nat) (K:ap) (fr:TF) (tk:TK) (h:c0 = .nilP ∨ c0 = .ptr id 0) (h2:τ.at id = some ⟨bz,[c0,c1]⟩) => zcdw id c0 c1 d K fr tk τ h2 hi hw h
  have ck:=fun (d:Option Nat) (K:ap) (fr:TF) (tk:TK) => ck _ _ d K fr tk (.inr rfl) ha
  simp only [vf,TT,Ic.t,ci,reduceEqDiff,reduceAdd,reduceCtorEq,hi,hw,ck,al,al1,bl,m1,m2,hb,m4]
  exact hK
 | false =>
  rw [bu] at ha
  have hb0:b.size = 0:=hu.resolve_left (by simp)
  rw [zch6 hb0,List.nil_append] at hK
  have ck:=fun (c0 c1:TV) (d:Option Nat) (K:ap) (fr:TF) (tk:TK) (h:c0 = .nilP ∨ c0 = .ptr id 0) (h2:τ.at id = some ⟨bz,[c0,c1]⟩) => zcdw id c0 c1 d K fr tk τ h2 hi hw h
  have ck:=fun (d:Option Nat) (K:ap) (fr:TF) (tk:TK) => ck _ _ d K fr tk (.inl rfl) ha
  simp only [vf,TT,Ic.t,ci,reduceEqDiff,reduceAdd,reduceCtorEq,hi,hw,ck,al,bl,m1,m2]
  exact hK
theorem zb5q (c:Int) (h0:0 ≤ c) (h1:c < 256):dd (b.push (UInt8.ofNat c.toNat)) = dd b ++ [.int .u8 c]:=by
 unfold dd
 have e:((UInt8.ofNat c.toNat).toNat:Int) = c:=by rw [UInt8.toNat_ofNat']; omega
 simp only [ByteArray.push,Array.toList_push,List.map_append,List.map_cons,List.map_nil,e]
theorem zcw7 (c:Int) (h0:0 ≤ c) (h1:c < 256) (hb:b.size + 1 ≤ 140737488355328):du G false er [.ptr id 0,.int .u8 c] d K fr tk τ = K (fp fr d .nilI) tk (τ.put id (a8 id true (b.push (UInt8.ofNat c.toNat)))):=by
 refine zbz3 (gp fun K hK => ?_) (by simp only [TT,hi])
 rw [bc zdhj (Nat.le_of_ble_eq_true rfl)]
 have m2:1 ≤ maxLen:=by unfold maxLen; omega
 have m4:b.size + 1 ≤ maxLen:=by unfold maxLen; omega
 have al1:=zc82 b
 have bl:=zb79
 rw [zb4i,zb5q b id u τ ha hi hw hl hu c h0 h1] at hK
 cases u with
 | true =>
  rw [zb4i] at ha
  have ck:=fun (d:Option Nat) (K:ap) (fr:TF) (tk:TK) => zcdw id _ _ d K fr tk τ ha hi hw (.inr rfl)
  simp only [xn,TT,Ic.t,reduceEqDiff,reduceAdd,reduceLeDiff,reduceCtorEq,hi,hw,ck,al1,bl,m2,hb,m4]
  exact hK
 | false =>
  rw [bu] at ha
  have hb0:b.size = 0:=hu.resolve_left (by simp)
  rw [zch6 hb0,List.nil_append] at hK
  have ck:=fun (d:Option Nat) (K:ap) (fr:TF) (tk:TK) => zcdw id _ _ d K fr tk τ ha hi hw (.inl rfl)
  simp only [xn,TT,Ic.t,reduceEqDiff,reduceAdd,reduceLeDiff,reduceCtorEq,hi,hw,ck,m2]
  exact hK
omit hw in
theorem zcn1 (lk:Bool):du G lk lu [.ptr id 0] d K fr tk τ = K (fp fr d (.int .i64 ((b.size:Nat):Int))) tk τ:=by
 have run:∀ τ:TH,τ.at id = some (a8 id u b) → τ.lock ≤ τ.next → id < τ.next → Ru G lu [.ptr id 0] τ (.int .i64 ((b.size:Nat):Int)) τ:=fun τ ha hl hi => by
  refine gp fun K hK => ?_
  rw [bc zdgn (Nat.le_of_ble_eq_true rfl)]
  have bl:=zb79
  cases u with
  | true =>
   rw [zb4i] at ha
   simp only [zc57,TT,Ic.t,ci,reduceCtorEq,ha,bl]
   exact hK
  | false =>
   rw [bu] at ha
   have hb0:b.size = 0:=hu.resolve_left (by simp)
   rw [hb0] at hK
   simp only [zc57,TT,Ic.t,ci,reduceCtorEq,ha]
   exact hK
 exact au (run τ ha hl hi) (run _ (by rw [ww]; exact ha) (Nat.le_refl _) hi) (by simp only [TT,hi])
def zda9 (id:Nat) (u:Bool) (b:ByteArray):Ob:=if b.size = 0 then a8 id u b else ⟨bz,[.ptr id 0,.sl (dd b)]⟩
theorem zcgn (hb:b.size ≤ 140737488355328):du G false cd [.ptr id 0] d K fr tk τ = K (fp fr d (.str b)) tk (τ.put id (zda9 id u b)):=by
 refine zbz3 (zcai zdgx ?_) (by simp only [TT,hi])
 have hm:(dd b).length ≤ maxLen:=by rw [zb79]; unfold maxLen; omega
 have e0:b.size = 0 → b = ⟨#[]⟩:=fun h => by
  cases b with
  | mk a => congr 1; exact Array.eq_empty_of_size_eq_zero h
 unfold zda9
 cases u with
 | true =>
  rw [zb4i] at ha
  by_cases h0:b.size = 0
  · rw [if_pos h0,jj (by rw [ha,zb4i]),e0 h0]
    rw [zch6 h0] at ha
    simp only [zb3o,ha,Option.bind_some,true_and,if_true,hw]
    try rfl
  · have hne:¬ dd b = []:=fun h => h0 (by rw [← zb79,h]; rfl)
    rw [if_neg h0]
    simp only [zb3o,ha,Option.bind_some,and_self,if_true,hw,hm,zbqf,if_neg hne,zde3,Option.map_some]
    try rfl
 | false =>
  have hb0:b.size = 0:=hu.resolve_left (by simp)
  rw [if_pos hb0,jj ha,e0 hb0]
  rw [bu] at ha
  simp only [zb3o,ha,Option.bind_some,true_and,if_true]
  try rfl
end
section
variable (id:Nat) (d:Option Nat) (K:ap) (fr:TF) (tk:TK) (τ:TH) (ha:τ.at id = some (a8 id false ⟨#[]⟩)) (hi:id < τ.next) (hw:τ.lock ≤ id) (hl:τ.lock ≤ τ.next)
include ha hi hw hl
theorem zcxo (s:ByteArray) (hb:s.size ≤ 140737488355328):du G false bk [.ptr id 0,.str s] d K fr tk τ = K (fp fr d (.tup [.int .i64 ((s.size:Nat):Int),.nilI])) tk (τ.put id (a8 id true s)):=by
 have h:=yn ⟨#[]⟩ id false d K fr tk τ ha hi hw hl (.inr rfl) s (by show 0 + s.size ≤ _; omega)
 have e:(⟨#[]⟩:ByteArray) ++ s = s:=ByteArray.empty_append
 rwa [e] at h
end
end Go.Proofs.Ytjgpklmkdkkooaa
