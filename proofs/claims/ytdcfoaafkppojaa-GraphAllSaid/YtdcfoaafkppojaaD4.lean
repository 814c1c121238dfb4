import Derived.Test.YtdcfoaafkppojaaM20
set_option linter.unusedVariables false
set_option linter.unusedSimpArgs false
set_option linter.unusedSectionVars false
open Nat (reduceEqDiff reduceAdd reduceMul reduceLT reduceLeDiff reduceSub)
open Int (reduceToNat reduceNe reduceEq reduceNeg reduceLE)
namespace Go.Proofs.Ytdcfoaafkppojaa
open Go Go.RowKit Sh Ic
noncomputable section
def wy (p1 : Int) (p2 : Int) : Option Bool :=
 nm p1 (0 : Int) (IntKind.i64.wrap (p2 - (1 : Int))) >>= fun y1 =>
 some (!y1)
theorem zc2s (p1 : Int) (p2 : Int) (r : Bool) (h : wy p1 p2 = some r) (τ : TH) (o0 : Nat) (hl : τ.lock ≤ τ.next) (ha0 : τ.at o0 = some ⟨cy,[.int .i64 p2]⟩) (hi0 : o0 < τ.next) : Ru G jd [.int .i64 p1,.ptr o0 0] τ (.bool r) τ := by
 refine jv fun K hK => ?_
 rw [bh zdfu (Nat.le_of_ble_eq_true rfl)]
 unfold wy at h
 obtain ⟨y1,hy1,h⟩ := ob h
 have k2 := pa p1 (0 : Int) (IntKind.i64.wrap (p2 - (1 : Int))) _ hy1
 try simp only [CL,MC,reduceToNat] at k2
 injection h with h; subst h
 simp only [zdfe,TT,Ic.t,ci,reduceEqDiff,reduceAdd,reduceCtorEq,hl,ha0,k2]
 exact hK
theorem zdb8 (p1 : Int) (p2 : Int) (r : Bool) (h : wy p1 p2 = some r) (lk : Bool) (d : Option Nat) (K : au) (fr : TF) (tk : TK) (τ : TH) (o0 : Nat) (hl : τ.lock ≤ τ.next) (ha0 : τ.at o0 = some ⟨cy,[.int .i64 p2]⟩) (hi0 : o0 < τ.next) : eo G lk jd [.int .i64 p1,.ptr o0 0] d K fr tk τ = K (fv fr d (.bool r)) tk τ :=
 av (zc2s p1 p2 r h τ o0 hl ha0 hi0) (zc2s p1 p2 r h (τ.locked τ.next) o0 (Nat.le_refl _) (by rw [zbls]; exact ha0) hi0) (by simp only [TT,hi0])
def bd (v0 : (List Int)) (v1 : Int) (v2 : Int) (v3 : Int) : Option (LS (Int) (LX (Unit) (Int))) :=
 if v3 < v2 then
  ixL v0 v3 >>= fun y2 =>
  wy y2 v1 >>= fun y4 =>
  if y4 = true then
   some (.dn (.rt v3))
  else
  some (.nx (IntKind.i64.wrap (v3 + (1 : Int))))
 else
 some (.dn (.ex ()))
def dd (v0 : (List Int)) (v1 : Int) (v2 : Int) (v3 : Int) : Option (LX (Unit) (Int)) := kx (fun st => bd v0 v1 v2 st) v3
theorem pu (v0 : (List Int)) (v1 : Int) (v2 : Int) (v3 : Int) : dd v0 v1 v2 v3 = bd v0 v1 v2 v3 >>= LS.go (fun st => dd v0 v1 v2 st) := bu (fun st => bd v0 v1 v2 st) v3
def ig (v0 : (List Int)) (v1 : Int) (v2 : Int) (v3 : Int) (r : LX (Unit) (Int)) : Prop := ∀ (τ : TH) (o0 : Nat) (hl : τ.lock ≤ τ.next) (ha0 : τ.at o0 = some ⟨cy,[.int .i64 v1]⟩) (hi0 : o0 < τ.next) (Q : TEx → au) (hQ0 : ∀ v : Unit,r = (.ex v) → ∀ (fr : TF) (tk2 : TK) (τ2 : TH),tk2.take 0 = [] → τ2.cut τ.next = τ → Q (.exit 0) fr tk2 τ2) (hQ1 : ∀ v : Int,r = (.rt v) → ∀ (tk2 : TK) (τ2 : TH),τ2.cut τ.next = τ → Q .ret [(4,.int .i64 v)] tk2 τ2) ,tW G (.loop [0,1,7,8] gh) Q [(0,.sl (List.map (TV.int .i64) v0)),(1,.func jd [] [.ptr o0 0]),(7,.int .i64 v2),(8,.int .i64 v3)] [] τ
theorem zddz (v0 : (List Int)) (v1 : Int) (v2 : Int) (v3 : Int) (r : LX (Unit) (Int)) (h : dd v0 v1 v2 v3 = some r) : ig v0 v1 v2 v3 r := by
 refine bf (f := fun st => bd v0 v1 v2 st) (P := fun st r => ∀ (v3 : Int),v3 = st → ig v0 v1 v2 v3 r) ?_ h v3 rfl
 clear h r v3
 intro st o h r ih v3 hst τ o0 hl ha0 hi0 Q hQ0 hQ1
 subst hst
 have h : bd v0 v1 v2 v3 = some o := h
 unfold bd at h
 refine jo fun LQ hn hr he => ?_
 by_cases c1 : v3 < v2
 · rw [if_pos c1] at h
   obtain ⟨y2,hy2,h⟩ := ob h
   have f3 := aw hy2
   have f3a := (f3.2.2 (TV.int .i64)).1
   have f3b := (f3.2.2 (TV.int .i64)).2
   try simp only [CL,MC,reduceToNat] at f3 f3a f3b
   obtain ⟨y4,hy4,h⟩ := ob h
   have k5 := zdb8 y2 v1 _ hy4
   try simp only [CL,MC,reduceToNat] at k5
   by_cases c6 : y4 = true
   · rw [if_pos c6] at h
     injection h with h; subst h
     obtain rfl : _ = r := ih
     simp only [gh,ew,TT,Ic.t,ci,reduceEqDiff,reduceCtorEq,hl,ha0,hi0,he,hr,c1,f3.1,f3.2.1,f3a,k5,c6]
     exact hQ1 v3 rfl _ _ (by simp only [TT])
   rw [if_neg c6] at h
   have c6 := Bool.eq_false_iff.2 c6
   injection h with h; subst h
   have ih := ih (IntKind.i64.wrap (v3 + (1 : Int))) rfl
   unfold ig at ih
   simp only [gh,ew,TT,Ic.t,ci,reduceEqDiff,reduceCtorEq,hl,ha0,hi0,c1,f3.1,f3.2.1,f3a,k5,c6]
   rw [hn]
   simp only [TT,reduceEqDiff,reduceCtorEq,hi0]
   exact ih τ o0 (by assumption) (by simp only [ha0]) (by assumption) Q hQ0 hQ1
 rw [if_neg c1] at h
 injection h with h; subst h
 obtain rfl : _ = r := ih
 simp only [gh,ew,TT,Ic.t,ci,reduceEqDiff,reduceCtorEq,he,c1]
 exact hQ0 () rfl _ _ _ (by rfl) (by simp only [TT])
def im (p1 : (List Int)) (p2 : Int) : Option Int :=
 dd p1 p2 ((p1.length : Nat) : Int) (0 : Int) >>= fun y1 =>
 match y1 with
 | .ex w2 =>
  some (-1 : Int)
 | .rt w4 =>
  some w4
theorem se (p1 : (List Int)) (p2 : Int) (r : Int) (h : im p1 p2 = some r) (τ : TH) (o0 : Nat) (hl : τ.lock ≤ τ.next) (ha0 : τ.at o0 = some ⟨cy,[.int .i64 p2]⟩) (hi0 : o0 < τ.next) : Ru G fg [.sl (List.map (TV.int .i64) p1),.func jd [] [.ptr o0 0]] τ (.int .i64 r) τ := by
 refine jv fun K hK => ?_
 rw [bh zddm (Nat.le_of_ble_eq_true rfl)]
 unfold im at h
 obtain ⟨y1,hy1,h⟩ := ob h
 simp only [ew,TT,Ic.t,ci,reduceEqDiff,reduceAdd,reduceCtorEq]
 have Sy1 := zddz p1 p2 ((p1.length : Nat) : Int) (0 : Int) y1 hy1
 unfold ig at Sy1
 refine Sy1 _ o0 (by assumption) (by simp only [ha0]) (by assumption) _ ?_ ?_
 · intro w2 e frq3 tkq3 τq3 htq3 hcq3
   subst e
   simp only at h
   have hcq3 := az (n := τ.next) hcq3 (by omega)
   try simp only [List.take_zero] at htq3
   try simp only [TT] at hcq3
   injection h with h; subst h
   simp only [TT,hcq3]
   exact hK
 intro w4 e tkq5 τq5 hcq5
 subst e
 simp only at h
 have hcq5 := az (n := τ.next) hcq5 (by omega)
 try simp only [TT] at hcq5
 injection h with h; subst h
 simp only [TT,hcq5]
 exact hK
theorem zdds (p1 : (List Int)) (p2 : Int) (r : Int) (h : im p1 p2 = some r) (lk : Bool) (d : Option Nat) (K : au) (fr : TF) (tk : TK) (τ : TH) (o0 : Nat) (hl : τ.lock ≤ τ.next) (ha0 : τ.at o0 = some ⟨cy,[.int .i64 p2]⟩) (hi0 : o0 < τ.next) : eo G lk fg [.sl (List.map (TV.int .i64) p1),.func jd [] [.ptr o0 0]] d K fr tk τ = K (fv fr d (.int .i64 r)) tk τ :=
 av (se p1 p2 r h τ o0 hl ha0 hi0) (se p1 p2 r h (τ.locked τ.next) o0 (Nat.le_refl _) (by rw [zbls]; exact ha0) hi0) (by simp only [TT,hi0])
def de (p1 : (List Int)) (p2 : Int) : Option Bool :=
 im p1 p2 >>= fun y1 =>
 some (decide ((0 : Int) ≤ y1))
theorem pw (p1 : (List Int)) (p2 : Int) (r : Bool) (h : de p1 p2 = some r) (τ : TH) (o0 : Nat) (hl : τ.lock ≤ τ.next) (ha0 : τ.at o0 = some ⟨cy,[.int .i64 p2]⟩) (hi0 : o0 < τ.next) : Ru G dg [.sl (List.map (TV.int .i64) p1),.func jd [] [.ptr o0 0]] τ (.bool r) τ := by
 refine jv fun K hK => ?_
 rw [bh zddw (Nat.le_of_ble_eq_true rfl)]
 unfold de at h
 obtain ⟨y1,hy1,h⟩ := ob h
 have k2 := zdds p1 p2 _ hy1
 try simp only [CL,MC,reduceToNat] at k2
 injection h with h; subst h
 simp only [zddu,TT,Ic.t,ci,reduceEqDiff,reduceAdd,reduceCtorEq,hl,ha0,hi0,k2]
 exact hK
theorem zddy (p1 : (List Int)) (p2 : Int) (r : Bool) (h : de p1 p2 = some r) (lk : Bool) (d : Option Nat) (K : au) (fr : TF) (tk : TK) (τ : TH) (o0 : Nat) (hl : τ.lock ≤ τ.next) (ha0 : τ.at o0 = some ⟨cy,[.int .i64 p2]⟩) (hi0 : o0 < τ.next) : eo G lk dg [.sl (List.map (TV.int .i64) p1),.func jd [] [.ptr o0 0]] d K fr tk τ = K (fv fr d (.bool r)) tk τ :=
 av (pw p1 p2 r h τ o0 hl ha0 hi0) (pw p1 p2 r h (τ.locked τ.next) o0 (Nat.le_refl _) (by rw [zbls]; exact ha0) hi0) (by simp only [TT,hi0])
def fy (v0 : aa) (v1 : Int) (v2 : Int) (v4 : (List ag)) (v5 : Int) (v3 : (List ByteArray)) (v6 : Int) : Option (LS ((List ByteArray) × Int) (LX ((List ByteArray)) (Bool))) :=
 if v6 < v5 then
  ixL v4 v6 >>= fun y2 =>
  tj y2.Account >>= fun y4 =>
  if y4 = true then
   ti y2.Keys v2 (16 : Int) >>= fun y7 =>
   if y7 = true then
    if (v3.length + 1) * 16 ≤ 140737488355328 then
     some (.nx ((v3 ++ [y2.Account]),(IntKind.i64.wrap (v6 + (1 : Int)))))
    else
     none
   else
   some (.dn (.rt false))
  else
  some (.dn (.rt false))
 else
 some (.dn (.ex v3))
def nr (v0 : aa) (v1 : Int) (v2 : Int) (v4 : (List ag)) (v5 : Int) (v3 : (List ByteArray)) (v6 : Int) : Option (LX ((List ByteArray)) (Bool)) := kx (fun st => fy v0 v1 v2 v4 v5 st.1 st.2) (v3,v6)
theorem zc3f (v0 : aa) (v1 : Int) (v2 : Int) (v4 : (List ag)) (v5 : Int) (v3 : (List ByteArray)) (v6 : Int) : nr v0 v1 v2 v4 v5 v3 v6 = fy v0 v1 v2 v4 v5 v3 v6 >>= LS.go (fun st => nr v0 v1 v2 v4 v5 st.1 st.2) := bu (fun st => fy v0 v1 v2 v4 v5 st.1 st.2) (v3,v6)
def uw (v0 : aa) (v1 : Int) (v2 : Int) (v4 : (List ag)) (v5 : Int) (v3 : (List ByteArray)) (v6 : Int) (r : LX ((List ByteArray)) (Bool)) : Prop := ∀ (τ : TH) (o0 : Nat) (o1 : Nat) (n0 : Nat) (ty0 : TypeId) (hnn0 : n0 = v3.length) (hty0 : n0 = 0 ∨ ty0 = il) (hl : τ.lock ≤ τ.next) (ha0 : τ.at o0 = some ⟨am,[.str v0.ID,.sl (List.map ag.tv v0.Parties),.sl (List.map ac.tv v0.Arcs),.sl (List.map (TV.int .i64) v0.Leaders),.sl (List.map TV.str v0.Locks),.int .i64 v0.Start,.int .i64 v0.Delta]⟩) (hi0 : o0 < τ.next) (ha1 : τ.at o1 = some ⟨cy,[.int .i64 v1]⟩) (hi1 : o1 < τ.next) (Q : TEx → au) (hQ0 : ∀ v : (List ByteArray),r = (.ex v) → ∀ (fr : TF) (tk2 : TK) (τ2 : TH),∀ (u0 : TypeId),(v.length = 0 ∨ u0 = il) → lkp fr 1 = .ptr o0 0 → lkp fr 3 = .ptr o1 0 → lkp fr 5 = .sla 0 (List.map TV.str v) → tk2.take 1 = [some (v.length,u0)] → τ2.cut τ.next = τ → Q (.exit 0) fr tk2 τ2) (hQ1 : ∀ v : Bool,r = (.rt v) → ∀ (tk2 : TK) (τ2 : TH),τ2.cut τ.next = τ → Q .ret [(2,.bool v)] tk2 τ2) ,tW G (.loop [1,3,4,5,59,60,61] rq) Q [(1,.ptr o0 0),(3,.ptr o1 0),(4,.int .i64 v2),(5,.sla 0 (List.map TV.str v3)),(59,.sl (List.map ag.tv v4)),(60,.int .i64 v5),(61,.int .i64 v6)] [some (n0,ty0)] τ
theorem zdcu (v0 : aa) (v1 : Int) (v2 : Int) (v4 : (List ag)) (v5 : Int) (v3 : (List ByteArray)) (v6 : Int) (r : LX ((List ByteArray)) (Bool)) (h : nr v0 v1 v2 v4 v5 v3 v6 = some r) : uw v0 v1 v2 v4 v5 v3 v6 r := by
 refine bf (f := fun st => fy v0 v1 v2 v4 v5 st.1 st.2) (P := fun st r => ∀ (v3 : (List ByteArray)) (v6 : Int),(v3,v6) = st → uw v0 v1 v2 v4 v5 v3 v6 r) ?_ h v3 v6 rfl
 clear h r v6 v3
 intro st o h r ih v3 v6 hst τ o0 o1 n0 ty0 hnn0 hty0 hl ha0 hi0 ha1 hi1 Q hQ0 hQ1
 subst hst
 have h : fy v0 v1 v2 v4 v5 v3 v6 = some o := h
 unfold fy at h
 subst hnn0
 refine jo fun LQ hn hr he => ?_
 by_cases c1 : v6 < v5
 · rw [if_pos c1] at h
   obtain ⟨y2,hy2,h⟩ := ob h
   have f3 := aw hy2
   have f3a := (f3.2.2 ag.tv).1
   have f3b := (f3.2.2 ag.tv).2
   try simp only [CL] at f3 f3a f3b
   obtain ⟨y4,hy4,h⟩ := ob h
   have k5 := zcet y2.Account _ hy4
   try simp only [CL,MC,reduceToNat] at k5
   by_cases c6 : y4 = true
   · rw [if_pos c6] at h
     obtain ⟨y7,hy7,h⟩ := ob h
     have k8 := zcx5 y2.Keys v2 (16 : Int) _ hy7
     try simp only [CL,MC,reduceToNat] at k8
     by_cases c9 : y7 = true
     · rw [if_pos c9] at h
       obtain ⟨c10,h⟩ := ifS h
       have f11 : 1 ≤ maxLen := by unfold maxLen; omega
       have f12 : v3.length + 1 ≤ maxLen := by unfold maxLen; omega
       have f13 : ((List.map TV.str v3).all fun e => e.cells.length == 1) = true := zbmt (fun _ => rfl) _
       have f14 : List.map TV.str v3 ++ List.map TV.str [y2.Account] = List.map TV.str (v3 ++ [y2.Account]) := zbu3 _ _
       try simp only [List.map_cons,List.map_nil] at f14
       injection h with h; subst h
       have ih := ih (v3 ++ [y2.Account]) (IntKind.i64.wrap (v6 + (1 : Int))) rfl
       unfold uw at ih
       simp only [List.all_cons,List.all_nil,Bool.not_true,and_true,true_and,rq,cd,TT,Ic.t,ci,reduceEqDiff,reduceAdd,reduceLT,reduceLeDiff,reduceCtorEq,hl,hi0,hi1,hty0,c1,f3.1,f3.2.1,f3a,k5,c6,k8,c9,c10,f11,f12,f13,f14]
       rw [hn]
       simp only [TT,reduceEqDiff,reduceLT,hi0,hi1]
       exact ih τ o0 o1 (v3.length + 1) il (by simp []) (by exact Or.inr rfl) (by assumption) (by simp only [ha0]) (by assumption) (by simp only [ha1]) (by assumption) Q hQ0 hQ1
     rw [if_neg c9] at h
     have c9 := Bool.eq_false_iff.2 c9
     injection h with h; subst h
     obtain rfl : _ = r := ih
     simp only [List.all_cons,List.all_nil,Bool.not_false,Bool.not_true,and_true,true_and,rq,cd,TT,Ic.t,ci,reduceEqDiff,reduceAdd,reduceLT,reduceLeDiff,reduceCtorEq,hl,hi0,hi1,hty0,he,hr,c1,f3.1,f3.2.1,f3a,k5,c6,k8,c9]
     exact hQ1 false rfl _ _ (by simp only [TT])
   rw [if_neg c6] at h
   have c6 := Bool.eq_false_iff.2 c6
   injection h with h; subst h
   obtain rfl : _ = r := ih
   simp only [List.all_cons,List.all_nil,Bool.not_false,and_true,true_and,rq,cd,TT,Ic.t,ci,reduceEqDiff,reduceAdd,reduceLT,reduceLeDiff,reduceCtorEq,hl,hi0,hi1,hty0,he,hr,c1,f3.1,f3.2.1,f3a,k5,c6]
   exact hQ1 false rfl _ _ (by simp only [TT])
 rw [if_neg c1] at h
 injection h with h; subst h
 obtain rfl : _ = r := ih
 simp only [List.all_cons,List.all_nil,and_true,true_and,rq,cd,TT,Ic.t,ci,reduceEqDiff,reduceAdd,reduceCtorEq,hl,he,c1]
 exact hQ0 v3 rfl _ _ _ ty0 (by exact hty0) (by rfl) (by rfl) (by rfl) (by rfl) (by simp only [TT])
def fx (v0 : aa) (v1 : Int) (v2 : (List ByteArray)) (v4 : (List ac)) (v5 : Int) (v3 : (List ei)) (v6 : Int) : Option (LS ((List ei) × Int) (LX ((List ei)) (Bool))) :=
 if v6 < v5 then
  ixL v4 v6 >>= fun y2 =>
  zb5f (⟨y2.From,y2.To,y2.Ledger,y2.Asset,y2.Amount⟩ : ac) v1 >>= fun y4 =>
  if y4 = true then
   if (v3.length + 1) * 16 ≤ 140737488355328 then
    some (.nx ((v3 ++ [(⟨y2.From,y2.To⟩ : ei)]),(IntKind.i64.wrap (v6 + (1 : Int)))))
   else
    none
  else
  some (.dn (.rt false))
 else
 some (.dn (.ex v3))
def lz (v0 : aa) (v1 : Int) (v2 : (List ByteArray)) (v4 : (List ac)) (v5 : Int) (v3 : (List ei)) (v6 : Int) : Option (LX ((List ei)) (Bool)) := kx (fun st => fx v0 v1 v2 v4 v5 st.1 st.2) (v3,v6)
theorem zc3g (v0 : aa) (v1 : Int) (v2 : (List ByteArray)) (v4 : (List ac)) (v5 : Int) (v3 : (List ei)) (v6 : Int) : lz v0 v1 v2 v4 v5 v3 v6 = fx v0 v1 v2 v4 v5 v3 v6 >>= LS.go (fun st => lz v0 v1 v2 v4 v5 st.1 st.2) := bu (fun st => fx v0 v1 v2 v4 v5 st.1 st.2) (v3,v6)
def uv (v0 : aa) (v1 : Int) (v2 : (List ByteArray)) (v4 : (List ac)) (v5 : Int) (v3 : (List ei)) (v6 : Int) (r : LX ((List ei)) (Bool)) : Prop := ∀ (τ : TH) (o0 : Nat) (o1 : Nat) (n0 : Nat) (ty0 : TypeId) (hnn0 : n0 = v2.length) (hty0 : n0 = 0 ∨ ty0 = il) (n1 : Nat) (ty1 : TypeId) (hnn1 : n1 = v3.length) (hty1 : n1 = 0 ∨ ty1 = qa) (hl : τ.lock ≤ τ.next) (ha0 : τ.at o0 = some ⟨am,[.str v0.ID,.sl (List.map ag.tv v0.Parties),.sl (List.map ac.tv v0.Arcs),.sl (List.map (TV.int .i64) v0.Leaders),.sl (List.map TV.str v0.Locks),.int .i64 v0.Start,.int .i64 v0.Delta]⟩) (hi0 : o0 < τ.next) (ha1 : τ.at o1 = some ⟨cy,[.int .i64 v1]⟩) (hi1 : o1 < τ.next) (Q : TEx → au) (hQ0 : ∀ v : (List ei),r = (.ex v) → ∀ (fr : TF) (tk2 : TK) (τ2 : TH),∀ (u0 : TypeId),(v2.length = 0 ∨ u0 = il) → ∀ (u1 : TypeId),(v.length = 0 ∨ u1 = qa) → lkp fr 1 = .ptr o0 0 → lkp fr 3 = .ptr o1 0 → lkp fr 5 = .sla 0 (List.map TV.str v2) → lkp fr 8 = .sla 1 (List.map ei.tv v) → tk2.take 2 = [some (v2.length,u0),some (v.length,u1)] → τ2.cut τ.next = τ → Q (.exit 2) fr tk2 τ2) (hQ1 : ∀ v : Bool,r = (.rt v) → ∀ (tk2 : TK) (τ2 : TH),τ2.cut τ.next = τ → Q .ret [(2,.bool v)] tk2 τ2) ,tW G (.loop [1,3,5,8,83,84,85] xa) Q [(1,.ptr o0 0),(3,.ptr o1 0),(5,.sla 0 (List.map TV.str v2)),(8,.sla 1 (List.map ei.tv v3)),(83,.sl (List.map ac.tv v4)),(84,.int .i64 v5),(85,.int .i64 v6)] [some (n0,ty0),some (n1,ty1)] τ
theorem zdcv (v0 : aa) (v1 : Int) (v2 : (List ByteArray)) (v4 : (List ac)) (v5 : Int) (v3 : (List ei)) (v6 : Int) (r : LX ((List ei)) (Bool)) (h : lz v0 v1 v2 v4 v5 v3 v6 = some r) : uv v0 v1 v2 v4 v5 v3 v6 r := by
 refine bf (f := fun st => fx v0 v1 v2 v4 v5 st.1 st.2) (P := fun st r => ∀ (v3 : (List ei)) (v6 : Int),(v3,v6) = st → uv v0 v1 v2 v4 v5 v3 v6 r) ?_ h v3 v6 rfl
 clear h r v6 v3
 intro st o h r ih v3 v6 hst τ o0 o1 n0 ty0 hnn0 hty0 n1 ty1 hnn1 hty1 hl ha0 hi0 ha1 hi1 Q hQ0 hQ1
 subst hst
 have h : fx v0 v1 v2 v4 v5 v3 v6 = some o := h
 unfold fx at h
 subst hnn0
 subst hnn1
 refine jo fun LQ hn hr he => ?_
 by_cases c1 : v6 < v5
 · rw [if_pos c1] at h
   obtain ⟨y2,hy2,h⟩ := ob h
   have f3 := aw hy2
   have f3a := (f3.2.2 ac.tv).1
   have f3b := (f3.2.2 ac.tv).2
   try simp only [CL] at f3 f3a f3b
   obtain ⟨y4,hy4,h⟩ := ob h
   have k5 := zdd2 (⟨y2.From,y2.To,y2.Ledger,y2.Asset,y2.Amount⟩ : ac) v1 _ hy4
   try simp only [] at k5
   by_cases c6 : y4 = true
   · rw [if_pos c6] at h
     obtain ⟨c7,h⟩ := ifS h
     have f8 : 1 ≤ maxLen := by unfold maxLen; omega
     have f9 : v3.length + 1 ≤ maxLen := by unfold maxLen; omega
     have f10 : ((List.map ei.tv v3).all fun e => e.cells.length == 2) = true := zbmt (fun _ => rfl) _
     have f11 : List.map ei.tv v3 ++ List.map ei.tv [(⟨y2.From,y2.To⟩ : ei)] = List.map ei.tv (v3 ++ [(⟨y2.From,y2.To⟩ : ei)]) := zbu3 _ _
     try simp only [CL,List.map_cons,List.map_nil] at f11
     injection h with h; subst h
     have ih := ih (v3 ++ [(⟨y2.From,y2.To⟩ : ei)]) (IntKind.i64.wrap (v6 + (1 : Int))) rfl
     unfold uv at ih
     simp only [List.all_cons,List.all_nil,Bool.not_true,and_true,true_and,xa,cd,TT,Ic.t,ci,reduceEqDiff,reduceAdd,reduceLT,reduceLeDiff,reduceCtorEq,hl,hi0,ha1,hi1,hty1,c1,f3.1,f3.2.1,f3a,k5,c6,c7,f8,f9,f10,f11]
     rw [hn]
     simp only [TT,reduceEqDiff,reduceAdd,reduceLT,hi0,hi1]
     exact ih τ o0 o1 _ ty0 (by rfl) (by exact hty0) (v3.length + 1) qa (by simp []) (by exact Or.inr rfl) (by assumption) (by simp only [ha0]) (by assumption) (by simp only [ha1]) (by assumption) Q hQ0 hQ1
   rw [if_neg c6] at h
   have c6 := Bool.eq_false_iff.2 c6
   injection h with h; subst h
   obtain rfl : _ = r := ih
   simp only [List.all_cons,List.all_nil,Bool.not_false,and_true,true_and,xa,cd,TT,Ic.t,ci,reduceEqDiff,reduceAdd,reduceLT,reduceLeDiff,reduceCtorEq,hl,hi0,ha1,hi1,hty1,he,hr,c1,f3.1,f3.2.1,f3a,k5,c6]
   exact hQ1 false rfl _ _ (by simp only [TT])
 rw [if_neg c1] at h
 injection h with h; subst h
 obtain rfl : _ = r := ih
 simp only [List.all_cons,List.all_nil,and_true,true_and,xa,cd,TT,Ic.t,ci,reduceEqDiff,reduceAdd,reduceCtorEq,hl,ha1,hi1,he,c1]
 exact hQ0 v3 rfl _ _ _ ty0 (by exact hty0) ty1 (by exact hty1) (by rfl) (by rfl) (by rfl) (by rfl) (by rfl) (by simp only [TT])
def mv (p1 : aa) : Option Bool :=
 tj p1.ID >>= fun y1 =>
 if y1 = true then
  nm ((p1.Parties.length : Nat) : Int) (2 : Int) (6 : Int) >>= fun y4 =>
  if y4 = true then
   nm ((p1.Leaders.length : Nat) : Int) (1 : Int) (3 : Int) >>= fun y7 =>
   if y7 = true then
    nm ((p1.Arcs.length : Nat) : Int) (1 : Int) (12 : Int) >>= fun y10 =>
    if y10 = true then
     ti p1.Locks ((p1.Leaders.length : Nat) : Int) (32 : Int) >>= fun y13 =>
     if y13 = true then
      nm p1.Start (0 : Int) (1099511627776 : Int) >>= fun y16 =>
      if y16 = true then
       nm p1.Delta (1 : Int) (1048576 : Int) >>= fun y19 =>
       if y19 = true then
        nr p1 ((p1.Parties.length : Nat) : Int) ((p1.Leaders.length : Nat) : Int) p1.Parties ((p1.Parties.length : Nat) : Int) [] (0 : Int) >>= fun y22 =>
        match y22 with
        | .ex w23 =>
         lz p1 ((p1.Parties.length : Nat) : Int) w23 p1.Arcs ((p1.Arcs.length : Nat) : Int) [] (0 : Int) >>= fun y27 =>
         match y27 with
         | .ex w28 =>
          ol w23 >>= fun y32 =>
          if y32 = true then
           uu w28 >>= fun y35 =>
           if y35 = true then
            z8 p1.Leaders >>= fun y38 =>
            if y38 = true then
             de p1.Leaders ((p1.Parties.length : Nat) : Int) >>= fun y41 =>
             some (!y41)
            else
            some false
           else
           some false
          else
          some false
         | .rt w30 =>
          some w30
        | .rt w25 =>
         some w25
       else
       some false
      else
      some false
     else
     some false
    else
    some false
   else
   some false
  else
  some false
 else
 some false
theorem zcx4 (p1 : aa) (r : Bool) (h : mv p1 = some r) (τ : TH) (hl : τ.lock ≤ τ.next) : Ru G o6 [.agg [.str p1.ID,.sl (List.map ag.tv p1.Parties),.sl (List.map ac.tv p1.Arcs),.sl (List.map (TV.int .i64) p1.Leaders),.sl (List.map TV.str p1.Locks),.int .i64 p1.Start,.int .i64 p1.Delta]] τ (.bool r) τ := by
 refine jv fun K hK => ?_
 rw [bh zdbw (Nat.le_of_ble_eq_true rfl)]
 unfold mv at h
 obtain ⟨y1,hy1,h⟩ := ob h
 have k2 := zcet p1.ID _ hy1
 try simp only [CL,MC,reduceToNat] at k2
 by_cases c3 : y1 = true
 · rw [if_pos c3] at h
   obtain ⟨y4,hy4,h⟩ := ob h
   have k5 := pa ((p1.Parties.length : Nat) : Int) (2 : Int) (6 : Int) _ hy4
   try simp only [CL,MC,reduceToNat] at k5
   by_cases c6 : y4 = true
   · rw [if_pos c6] at h
     obtain ⟨y7,hy7,h⟩ := ob h
     have k8 := pa ((p1.Leaders.length : Nat) : Int) (1 : Int) (3 : Int) _ hy7
     try simp only [CL,MC,reduceToNat] at k8
     by_cases c9 : y7 = true
     · rw [if_pos c9] at h
       obtain ⟨y10,hy10,h⟩ := ob h
       have k11 := pa ((p1.Arcs.length : Nat) : Int) (1 : Int) (12 : Int) _ hy10
       try simp only [CL,MC,reduceToNat] at k11
       by_cases c12 : y10 = true
       · rw [if_pos c12] at h
         obtain ⟨y13,hy13,h⟩ := ob h
         have k14 := zcx5 p1.Locks ((p1.Leaders.length : Nat) : Int) (32 : Int) _ hy13
         try simp only [CL,MC,reduceToNat] at k14
         by_cases c15 : y13 = true
         · rw [if_pos c15] at h
           obtain ⟨y16,hy16,h⟩ := ob h
           have k17 := pa p1.Start (0 : Int) (1099511627776 : Int) _ hy16
           try simp only [CL,MC,reduceToNat] at k17
           by_cases c18 : y16 = true
           · rw [if_pos c18] at h
             obtain ⟨y19,hy19,h⟩ := ob h
             have k20 := pa p1.Delta (1 : Int) (1048576 : Int) _ hy19
             try simp only [CL,MC,reduceToNat] at k20
             by_cases c21 : y19 = true
             · rw [if_pos c21] at h
               obtain ⟨y22,hy22,h⟩ := ob h
               simp only [sc,List.isEmpty_cons,mf,tD,pnK,vp,oi,List.filter_cons,List.filter_nil,List.filterMap_cons,List.filterMap_nil,dh,ir,th,gj,Ins.dsts,Ins.looks,I.ops,zbos,z4,List.all_cons,List.all_nil,List.any_cons,List.any_nil,List.contains_cons,List.contains_nil,List.append_nil,List.nil_append,List.cons_append,Option.toList_some,Option.isSome_some,Option.isSome_none,Bool.and_true,Bool.true_and,Bool.or_false,Bool.not_false,Bool.not_true,and_true,true_and,and_false,Nat.reduceBEq,bne_iff_ne,cd,TT,Ic.t,ci,reduceEqDiff,reduceAdd,reduceLT,reduceCtorEq,hl,k2,c3,k5,c6,k8,c9,k11,c12,k14,c15,k17,c18,k20,c21]
               have Sy22 := zdcu p1 ((p1.Parties.length : Nat) : Int) ((p1.Leaders.length : Nat) : Int) p1.Parties ((p1.Parties.length : Nat) : Int) [] (0 : Int) y22 hy22
               unfold uw at Sy22
               refine Sy22 _ τ.next (τ.next + 1) 0 0 (by rfl) (by exact Or.inl rfl) (by simp only [aj,ap]; omega) (by simp only [TT,reduceLT]) (by simp only [aj]; omega) (by simp only [TT]) (by simp only [aj]; omega) _ ?_ ?_
               · intro w23 e frq24 tkq24 τq24 u0q24 uh0q24 g1q24 g3q24 g5q24 htq24 hcq24
                 subst e
                 simp only at h
                 have hcq24 := az (n := τ.next + 2) hcq24 (by simp only [aj]; omega)
                 try simp only [List.take_succ_cons,List.take_zero,List.take_nil,CL] at htq24
                 try simp only [TT,reduceAdd] at hcq24
                 obtain ⟨y27,hy27,h⟩ := ob h
                 simp only [List.nil_append,List.cons_append,TT,reduceEqDiff,reduceAdd,reduceLT,g1q24,g3q24,g5q24,htq24,hcq24]
                 have Sy27 := zdcv p1 ((p1.Parties.length : Nat) : Int) w23 p1.Arcs ((p1.Arcs.length : Nat) : Int) [] (0 : Int) y27 hy27
                 unfold uv at Sy27
                 refine Sy27 _ τ.next (τ.next + 1) w23.length u0q24 (by rfl) (by assumption) 0 0 (by rfl) (by exact Or.inl rfl) (by simp only [aj,ap]; omega) (by simp only [TT,reduceLT]) (by simp only [aj]; omega) (by simp only [TT]) (by simp only [aj]; omega) _ ?_ ?_
                 · intro w28 e frq29 tkq29 τq29 u0q29 uh0q29 u1q29 uh1q29 g1q29 g3q29 g5q29 g8q29 htq29 hcq29
                   subst e
                   simp only at h
                   have hcq29 := az (n := τ.next + 2) hcq29 (by simp only [aj]; omega)
                   try simp only [List.take_succ_cons,List.take_zero,List.take_nil,CL] at htq29
                   try simp only [TT,reduceAdd] at hcq29
                   obtain ⟨y32,hy32,h⟩ := ob h
                   have k33 := zdc8 w23 _ hy32
                   try simp only [CL,MC,reduceToNat] at k33
                   by_cases c34 : y32 = true
                   · rw [if_pos c34] at h
                     obtain ⟨y35,hy35,h⟩ := ob h
                     have k36 := zdc7 w28 _ hy35
                     try simp only [CL,MC,reduceToNat] at k36
                     by_cases c37 : y35 = true
                     · rw [if_pos c37] at h
                       obtain ⟨y38,hy38,h⟩ := ob h
                       have k39 := zdcw p1.Leaders _ hy38
                       try simp only [CL,MC,reduceToNat] at k39
                       by_cases c40 : y38 = true
                       · rw [if_pos c40] at h
                         obtain ⟨y41,hy41,h⟩ := ob h
                         have k42 := zddy p1.Leaders ((p1.Parties.length : Nat) : Int) _ hy41
                         try simp only [CL,MC,reduceToNat] at k42
                         injection h with h; subst h
                         simp only [true_and,TT,reduceEqDiff,reduceAdd,reduceLT,hl,g1q29,g3q29,g5q29,g8q29,htq29,hcq29,k33,c34,k36,c37,k39,c40,k42]
                         first | exact hK | (simp only [hl,k2,c3,k5,c6,k8,c9,k11,c12,k14,c15,k17,c18,k20,c21,uh0q24,g1q24,g3q24,g5q24,htq24,hcq24,uh0q29,uh1q29,g1q29,g3q29,g5q29,g8q29,htq29,hcq29,k33,c34,k36,c37,k39,c40,k42,CL] at hK; exact hK)
                       rw [if_neg c40] at h
                       have c40 := Bool.eq_false_iff.2 c40
                       injection h with h; subst h
                       simp only [true_and,TT,reduceEqDiff,reduceAdd,reduceLT,hl,g1q29,g3q29,g5q29,g8q29,htq29,hcq29,k33,c34,k36,c37,k39,c40]
                       first | exact hK | (simp only [hl,k2,c3,k5,c6,k8,c9,k11,c12,k14,c15,k17,c18,k20,c21,uh0q24,g1q24,g3q24,g5q24,htq24,hcq24,uh0q29,uh1q29,g1q29,g3q29,g5q29,g8q29,htq29,hcq29,k33,c34,k36,c37,k39,c40,CL] at hK; exact hK)
                     rw [if_neg c37] at h
                     have c37 := Bool.eq_false_iff.2 c37
                     injection h with h; subst h
                     simp only [true_and,TT,reduceEqDiff,reduceAdd,reduceLT,hl,g1q29,g3q29,g5q29,g8q29,htq29,hcq29,k33,c34,k36,c37]
                     first | exact hK | (simp only [hl,k2,c3,k5,c6,k8,c9,k11,c12,k14,c15,k17,c18,k20,c21,uh0q24,g1q24,g3q24,g5q24,htq24,hcq24,uh0q29,uh1q29,g1q29,g3q29,g5q29,g8q29,htq29,hcq29,k33,c34,k36,c37,CL] at hK; exact hK)
                   rw [if_neg c34] at h
                   have c34 := Bool.eq_false_iff.2 c34
                   injection h with h; subst h
                   simp only [true_and,TT,reduceEqDiff,reduceAdd,reduceLT,hl,g1q29,g3q29,g5q29,g8q29,htq29,hcq29,k33,c34]
                   first | exact hK | (simp only [hl,k2,c3,k5,c6,k8,c9,k11,c12,k14,c15,k17,c18,k20,c21,uh0q24,g1q24,g3q24,g5q24,htq24,hcq24,uh0q29,uh1q29,g1q29,g3q29,g5q29,g8q29,htq29,hcq29,k33,c34,CL] at hK; exact hK)
                 intro w30 e tkq31 τq31 hcq31
                 subst e
                 simp only at h
                 have hcq31 := az (n := τ.next) hcq31 (by simp only [aj]; omega)
                 try simp only [TT] at hcq31
                 injection h with h; subst h
                 simp only [true_and,TT,hcq31]
                 first | exact hK | (simp only [hl,k2,c3,k5,c6,k8,c9,k11,c12,k14,c15,k17,c18,k20,c21,uh0q24,g1q24,g3q24,g5q24,htq24,hcq24,hcq31,CL] at hK; exact hK)
               intro w25 e tkq26 τq26 hcq26
               subst e
               simp only at h
               have hcq26 := az (n := τ.next) hcq26 (by simp only [aj]; omega)
               try simp only [TT] at hcq26
               injection h with h; subst h
               simp only [true_and,TT,hcq26]
               first | exact hK | (simp only [hl,k2,c3,k5,c6,k8,c9,k11,c12,k14,c15,k17,c18,k20,c21,hcq26,CL] at hK; exact hK)
             rw [if_neg c21] at h
             have c21 := Bool.eq_false_iff.2 c21
             injection h with h; subst h
             simp only [sc,List.isEmpty_cons,mf,tD,pnK,vp,oi,List.filter_cons,List.filter_nil,List.filterMap_cons,List.filterMap_nil,dh,ir,th,gj,Ins.dsts,Ins.looks,I.ops,zbos,z4,List.all_cons,List.all_nil,List.any_cons,List.any_nil,List.contains_cons,List.contains_nil,List.append_nil,List.nil_append,List.cons_append,Option.toList_some,Option.isSome_some,Option.isSome_none,Bool.and_true,Bool.true_and,Bool.or_false,Bool.not_false,Bool.not_true,and_true,true_and,and_false,Nat.reduceBEq,bne_iff_ne,cd,TT,Ic.t,ci,reduceEqDiff,reduceAdd,reduceLT,reduceCtorEq,hl,k2,c3,k5,c6,k8,c9,k11,c12,k14,c15,k17,c18,k20,c21]
             first | exact hK | (simp only [hl,k2,c3,k5,c6,k8,c9,k11,c12,k14,c15,k17,c18,k20,c21,CL] at hK; exact hK)
           rw [if_neg c18] at h
           have c18 := Bool.eq_false_iff.2 c18
           injection h with h; subst h
           simp only [sc,List.isEmpty_cons,mf,tD,pnK,vp,oi,List.filter_cons,List.filter_nil,List.filterMap_cons,List.filterMap_nil,dh,ir,th,gj,Ins.dsts,Ins.looks,I.ops,zbos,z4,List.all_cons,List.all_nil,List.any_cons,List.any_nil,List.contains_cons,List.contains_nil,List.append_nil,List.nil_append,List.cons_append,Option.toList_some,Option.isSome_some,Option.isSome_none,Bool.and_true,Bool.true_and,Bool.or_false,Bool.not_false,Bool.not_true,and_true,true_and,and_false,Nat.reduceBEq,bne_iff_ne,cd,TT,Ic.t,ci,reduceEqDiff,reduceAdd,reduceLT,reduceCtorEq,hl,k2,c3,k5,c6,k8,c9,k11,c12,k14,c15,k17,c18]
           first | exact hK | (simp only [hl,k2,c3,k5,c6,k8,c9,k11,c12,k14,c15,k17,c18,CL] at hK; exact hK)
         rw [if_neg c15] at h
         have c15 := Bool.eq_false_iff.2 c15
         injection h with h; subst h
         simp only [sc,List.isEmpty_cons,mf,tD,pnK,vp,oi,List.filter_cons,List.filter_nil,List.filterMap_cons,List.filterMap_nil,dh,ir,th,gj,Ins.dsts,Ins.looks,I.ops,zbos,z4,List.all_cons,List.all_nil,List.any_cons,List.any_nil,List.contains_cons,List.contains_nil,List.append_nil,List.nil_append,List.cons_append,Option.toList_some,Option.isSome_some,Option.isSome_none,Bool.and_true,Bool.true_and,Bool.or_false,Bool.not_false,Bool.not_true,and_true,true_and,and_false,Nat.reduceBEq,bne_iff_ne,cd,TT,Ic.t,ci,reduceEqDiff,reduceAdd,reduceLT,reduceCtorEq,hl,k2,c3,k5,c6,k8,c9,k11,c12,k14,c15]
         first | exact hK | (simp only [hl,k2,c3,k5,c6,k8,c9,k11,c12,k14,c15,CL] at hK; exact hK)
       rw [if_neg c12] at h
       have c12 := Bool.eq_false_iff.2 c12
       injection h with h; subst h
       simp only [sc,List.isEmpty_cons,mf,tD,pnK,vp,oi,List.filter_cons,List.filter_nil,List.filterMap_cons,List.filterMap_nil,dh,ir,th,gj,Ins.dsts,Ins.looks,I.ops,zbos,z4,List.all_cons,List.all_nil,List.any_cons,List.any_nil,List.contains_cons,List.contains_nil,List.append_nil,List.nil_append,List.cons_append,Option.toList_some,Option.isSome_some,Option.isSome_none,Bool.and_true,Bool.true_and,Bool.or_false,Bool.not_false,Bool.not_true,and_true,true_and,and_false,Nat.reduceBEq,bne_iff_ne,cd,TT,Ic.t,ci,reduceEqDiff,reduceAdd,reduceLT,reduceCtorEq,hl,k2,c3,k5,c6,k8,c9,k11,c12]
       first | exact hK | (simp only [hl,k2,c3,k5,c6,k8,c9,k11,c12,CL] at hK; exact hK)
     rw [if_neg c9] at h
     have c9 := Bool.eq_false_iff.2 c9
     injection h with h; subst h
     simp only [sc,List.isEmpty_cons,mf,tD,pnK,vp,oi,List.filter_cons,List.filter_nil,List.filterMap_cons,List.filterMap_nil,dh,ir,th,gj,Ins.dsts,Ins.looks,I.ops,zbos,z4,List.all_cons,List.all_nil,List.any_cons,List.any_nil,List.contains_cons,List.contains_nil,List.append_nil,List.nil_append,List.cons_append,Option.toList_some,Option.isSome_some,Option.isSome_none,Bool.and_true,Bool.true_and,Bool.or_false,Bool.not_false,Bool.not_true,and_true,true_and,and_false,Nat.reduceBEq,bne_iff_ne,cd,TT,Ic.t,ci,reduceEqDiff,reduceAdd,reduceLT,reduceCtorEq,hl,k2,c3,k5,c6,k8,c9]
     first | exact hK | (simp only [hl,k2,c3,k5,c6,k8,c9,CL] at hK; exact hK)
   rw [if_neg c6] at h
   have c6 := Bool.eq_false_iff.2 c6
   injection h with h; subst h
   simp only [sc,List.isEmpty_cons,mf,tD,pnK,vp,oi,List.filter_cons,List.filter_nil,List.filterMap_cons,List.filterMap_nil,dh,ir,th,gj,Ins.dsts,Ins.looks,I.ops,zbos,z4,List.all_cons,List.all_nil,List.any_cons,List.any_nil,List.contains_cons,List.contains_nil,List.append_nil,List.nil_append,List.cons_append,Option.toList_some,Option.isSome_some,Option.isSome_none,Bool.and_true,Bool.true_and,Bool.or_false,Bool.not_false,Bool.not_true,and_true,true_and,and_false,Nat.reduceBEq,bne_iff_ne,cd,TT,Ic.t,ci,reduceEqDiff,reduceAdd,reduceLT,reduceCtorEq,hl,k2,c3,k5,c6]
   first | exact hK | (simp only [hl,k2,c3,k5,c6,CL] at hK; exact hK)
 rw [if_neg c3] at h
 have c3 := Bool.eq_false_iff.2 c3
 injection h with h; subst h
 simp only [sc,List.isEmpty_cons,mf,tD,pnK,vp,oi,List.filter_cons,List.filter_nil,List.filterMap_cons,List.filterMap_nil,dh,ir,th,gj,Ins.dsts,Ins.looks,I.ops,zbos,z4,List.all_cons,List.all_nil,List.any_cons,List.any_nil,List.contains_cons,List.contains_nil,List.append_nil,List.nil_append,List.cons_append,Option.toList_some,Option.isSome_some,Option.isSome_none,Bool.and_true,Bool.true_and,Bool.or_false,Bool.not_false,and_true,true_and,and_false,Nat.reduceBEq,bne_iff_ne,cd,TT,Ic.t,ci,reduceEqDiff,reduceAdd,reduceLT,reduceCtorEq,hl,k2,c3]
 first | exact hK | (simp only [hl,k2,c3,CL] at hK; exact hK)
theorem wx (p1 : aa) (r : Bool) (h : mv p1 = some r) (lk : Bool) (d : Option Nat) (K : au) (fr : TF) (tk : TK) (τ : TH) (hl : τ.lock ≤ τ.next) : eo G lk o6 [.agg [.str p1.ID,.sl (List.map ag.tv p1.Parties),.sl (List.map ac.tv p1.Arcs),.sl (List.map (TV.int .i64) p1.Leaders),.sl (List.map TV.str p1.Locks),.int .i64 p1.Start,.int .i64 p1.Delta]] d K fr tk τ = K (fv fr d (.bool r)) tk τ :=
 av (zcx4 p1 r h τ hl) (zcx4 p1 r h (τ.locked τ.next) (Nat.le_refl _) ) (by simp only [TT])
def rx (p1 : Int) : Option Bool :=
 some true
theorem zc0o (p1 : Int) (r : Bool) (h : rx p1 = some r) (τ : TH) (hl : τ.lock ≤ τ.next) : Ru G j9 [.int .i64 p1] τ (.bool r) τ := by
 refine jv fun K hK => ?_
 rw [bh zdft (Nat.le_of_ble_eq_true rfl)]
 unfold rx at h
 injection h with h; subst h
 simp only [zdfd,TT]
 exact hK
theorem zdb3 (p1 : Int) (r : Bool) (h : rx p1 = some r) (lk : Bool) (d : Option Nat) (K : au) (fr : TF) (tk : TK) (τ : TH) (hl : τ.lock ≤ τ.next) : eo G lk j9 [.int .i64 p1] d K fr tk τ = K (fv fr d (.bool r)) tk τ :=
 av (zc0o p1 r h τ hl) (zc0o p1 r h (τ.locked τ.next) (Nat.le_refl _) ) (by simp only [TT])
end
end Go.Proofs.Ytdcfoaafkppojaa
