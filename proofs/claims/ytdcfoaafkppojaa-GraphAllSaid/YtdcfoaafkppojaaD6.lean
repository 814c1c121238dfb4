import Derived.Test.YtdcfoaafkppojaaD5
set_option linter.unusedVariables false
set_option linter.unusedSimpArgs false
set_option linter.unusedSectionVars false
open Nat (reduceEqDiff reduceAdd reduceMul reduceLT reduceLeDiff reduceSub)
open Int (reduceToNat reduceNe reduceEq reduceNeg reduceLE)
namespace Go.Proofs.Ytdcfoaafkppojaa
open Go Go.RowKit Sh Ic
noncomputable section
def zb65 (p1 : aa) (p2 : Int) : Option (List Int) :=
 mv p1 >>= fun y1 =>
 if y1 = true then
  ko p2 p1.Arcs ((p1.Arcs.length : Nat) : Int) [] (0 : Int) >>= fun y4 =>
  some y4
 else
 some []
theorem zcye (p1 : aa) (p2 : Int) (r : (List Int)) (h : zb65 p1 p2 = some r) (τ : TH) (o0 : Nat) (hl : τ.lock ≤ τ.next) (ha0 : τ.at o0 = some ⟨cy,[.int .i64 p2]⟩) (hi0 : o0 < τ.next) : Ru G ms [.agg [.str p1.ID,.sl (List.map ag.tv p1.Parties),.sl (List.map ac.tv p1.Arcs),.sl (List.map (TV.int .i64) p1.Leaders),.sl (List.map TV.str p1.Locks),.int .i64 p1.Start,.int .i64 p1.Delta],.func km [] [.ptr o0 0]] τ (.sl (List.map (TV.int .i64) r)) τ := by
 refine jv fun K hK => ?_
 rw [bh zcsh (Nat.le_of_ble_eq_true rfl)]
 unfold zb65 at h
 obtain ⟨y1,hy1,h⟩ := ob h
 have k2 := wx p1 _ hy1
 try simp only [CL,MC,reduceToNat] at k2
 by_cases c3 : y1 = true
 · rw [if_pos c3] at h
   obtain ⟨y4,hy4,h⟩ := ob h
   simp only [jg,TT,Ic.t,ci,reduceEqDiff,reduceAdd,reduceCtorEq,hl,k2,c3]
   have Sy4 := zdc0 p2 p1.Arcs ((p1.Arcs.length : Nat) : Int) [] (0 : Int) y4 hy4
   unfold ou at Sy4
   refine Sy4 _ o0 0 0 (by rfl) (by exact Or.inl rfl) (by simp only [aj,ap]; omega) (by simp only [TT,ha0,hi0]) (by simp only [aj]; omega) _ ?_
   intro frq5 tkq5 τq5 u0q5 uh0q5 g5q5 htq5 hcq5
   have hcq5 := az (n := τ.next + 1) hcq5 (by simp only [aj]; omega)
   try simp only [List.take_succ_cons,List.take_zero,List.take_nil,CL] at htq5
   try simp only [TT] at hcq5
   injection h with h; subst h
   simp only [TT,reduceLT,g5q5,htq5,hcq5]
   first | exact hK | (simp only [hl,ha0,hi0,k2,c3,uh0q5,g5q5,htq5,hcq5,CL] at hK; exact hK)
 rw [if_neg c3] at h
 have c3 := Bool.eq_false_iff.2 c3
 injection h with h; subst h
 simp only [jg,TT,Ic.t,ci,reduceEqDiff,reduceAdd,reduceCtorEq,hl,k2,c3]
 first | exact hK | (simp only [hl,ha0,hi0,k2,c3,CL] at hK; exact hK)
theorem zdgg (p1 : aa) (p2 : Int) (r : (List Int)) (h : zb65 p1 p2 = some r) (lk : Bool) (d : Option Nat) (K : au) (fr : TF) (tk : TK) (τ : TH) (o0 : Nat) (hl : τ.lock ≤ τ.next) (ha0 : τ.at o0 = some ⟨cy,[.int .i64 p2]⟩) (hi0 : o0 < τ.next) : eo G lk ms [.agg [.str p1.ID,.sl (List.map ag.tv p1.Parties),.sl (List.map ac.tv p1.Arcs),.sl (List.map (TV.int .i64) p1.Leaders),.sl (List.map TV.str p1.Locks),.int .i64 p1.Start,.int .i64 p1.Delta],.func km [] [.ptr o0 0]] d K fr tk τ = K (fv fr d (.sl (List.map (TV.int .i64) r))) tk τ :=
 av (zcye p1 p2 r h τ o0 hl ha0 hi0) (zcye p1 p2 r h (τ.locked τ.next) o0 (Nat.le_refl _) (by rw [zbls]; exact ha0) hi0) (by simp only [TT,hi0])
def qk (p1 : aa) (p2 : Int) : Option (List Int) :=
 zb65 p1 p2 >>= fun y1 =>
 some y1
theorem zcx8 (p1 : aa) (p2 : Int) (r : (List Int)) (h : qk p1 p2 = some r) (τ : TH) (hl : τ.lock ≤ τ.next) : Ru G qy [.agg [.str p1.ID,.sl (List.map ag.tv p1.Parties),.sl (List.map ac.tv p1.Arcs),.sl (List.map (TV.int .i64) p1.Leaders),.sl (List.map TV.str p1.Locks),.int .i64 p1.Start,.int .i64 p1.Delta],.int .i64 p2] τ (.sl (List.map (TV.int .i64) r)) τ := by
 refine jv fun K hK => ?_
 rw [bh zde2 (Nat.le_of_ble_eq_true rfl)]
 unfold qk at h
 obtain ⟨y1,hy1,h⟩ := ob h
 have k2 := zdgg p1 p2 _ hy1
 try simp only [CL,MC,reduceToNat] at k2
 injection h with h; subst h
 simp only [zdes,TT,Ic.t,reduceEqDiff,reduceAdd,reduceLT,reduceCtorEq,hl,k2]
 exact hK
theorem zcx7 (p1 : aa) (p2 : Int) (r : (List Int)) (h : qk p1 p2 = some r) (lk : Bool) (d : Option Nat) (K : au) (fr : TF) (tk : TK) (τ : TH) (hl : τ.lock ≤ τ.next) : eo G lk qy [.agg [.str p1.ID,.sl (List.map ag.tv p1.Parties),.sl (List.map ac.tv p1.Arcs),.sl (List.map (TV.int .i64) p1.Leaders),.sl (List.map TV.str p1.Locks),.int .i64 p1.Start,.int .i64 p1.Delta],.int .i64 p2] d K fr tk τ = K (fv fr d (.sl (List.map (TV.int .i64) r))) tk τ :=
 av (zcx8 p1 p2 r h τ hl) (zcx8 p1 p2 r h (τ.locked τ.next) (Nat.le_refl _) ) (by simp only [TT])
def t8 (p1 : ac) (p2 : Int) : Option Bool :=
 some (decide (p1.From = p2))
theorem zc2y (p1 : ac) (p2 : Int) (r : Bool) (h : t8 p1 p2 = some r) (τ : TH) (o0 : Nat) (hl : τ.lock ≤ τ.next) (ha0 : τ.at o0 = some ⟨cy,[.int .i64 p2]⟩) (hi0 : o0 < τ.next) : Ru G kl [.agg [.int .i64 p1.From,.int .i64 p1.To,.int .i64 p1.Ledger,.str p1.Asset,.int .i64 p1.Amount],.ptr o0 0] τ (.bool r) τ := by
 refine jv fun K hK => ?_
 rw [bh zdgi (Nat.le_of_ble_eq_true rfl)]
 unfold t8 at h
 injection h with h; subst h
 simp only [zdf4,TT,Ic.t,reduceEqDiff,reduceAdd,reduceCtorEq,ha0,hi0]
 exact hK
theorem zdcj (p1 : ac) (p2 : Int) (r : Bool) (h : t8 p1 p2 = some r) (lk : Bool) (d : Option Nat) (K : au) (fr : TF) (tk : TK) (τ : TH) (o0 : Nat) (hl : τ.lock ≤ τ.next) (ha0 : τ.at o0 = some ⟨cy,[.int .i64 p2]⟩) (hi0 : o0 < τ.next) : eo G lk kl [.agg [.int .i64 p1.From,.int .i64 p1.To,.int .i64 p1.Ledger,.str p1.Asset,.int .i64 p1.Amount],.ptr o0 0] d K fr tk τ = K (fv fr d (.bool r)) tk τ :=
 av (zc2y p1 p2 r h τ o0 hl ha0 hi0) (zc2y p1 p2 r h (τ.locked τ.next) o0 (Nat.le_refl _) (by rw [zbls]; exact ha0) hi0) (by simp only [TT,hi0])
def dv (v0 : Int) (v2 : (List ac)) (v3 : Int) (v1 : (List Int)) (v4 : Int) : Option (LS ((List Int) × Int) ((List Int))) :=
 if v4 < v3 then
  ixL v2 v4 >>= fun y2 =>
  t8 (⟨y2.From,y2.To,y2.Ledger,y2.Asset,y2.Amount⟩ : ac) v0 >>= fun y4 =>
  if y4 = true then
   if (v1.length + 1) * 8 ≤ 140737488355328 then
    some (.nx ((v1 ++ [v4]),(IntKind.i64.wrap (v4 + (1 : Int)))))
   else
    none
  else
  some (.nx (v1,(IntKind.i64.wrap (v4 + (1 : Int)))))
 else
 some (.dn v1)
def jt (v0 : Int) (v2 : (List ac)) (v3 : Int) (v1 : (List Int)) (v4 : Int) : Option ((List Int)) := kx (fun st => dv v0 v2 v3 st.1 st.2) (v1,v4)
theorem zc3y (v0 : Int) (v2 : (List ac)) (v3 : Int) (v1 : (List Int)) (v4 : Int) : jt v0 v2 v3 v1 v4 = dv v0 v2 v3 v1 v4 >>= LS.go (fun st => jt v0 v2 v3 st.1 st.2) := bu (fun st => dv v0 v2 v3 st.1 st.2) (v1,v4)
def nv (v0 : Int) (v2 : (List ac)) (v3 : Int) (v1 : (List Int)) (v4 : Int) (r : (List Int)) : Prop := ∀ (τ : TH) (o0 : Nat) (n0 : Nat) (ty0 : TypeId) (hnn0 : n0 = v1.length) (hty0 : n0 = 0 ∨ ty0 = cy) (hl : τ.lock ≤ τ.next) (ha0 : τ.at o0 = some ⟨cy,[.int .i64 v0]⟩) (hi0 : o0 < τ.next) (Q : TEx → au) (hQ0 : ∀ (fr : TF) (tk2 : TK) (τ2 : TH),∀ (u0 : TypeId),(r.length = 0 ∨ u0 = cy) → lkp fr 5 = .sla 0 (List.map (TV.int .i64) r) → tk2.take 1 = [some (r.length,u0)] → τ2.cut τ.next = τ → Q (.exit 0) fr tk2 τ2) ,tW G (.loop [1,5,12,13,14] kc) Q [(1,.func kl [] [.ptr o0 0]),(5,.sla 0 (List.map (TV.int .i64) v1)),(12,.sl (List.map ac.tv v2)),(13,.int .i64 v3),(14,.int .i64 v4)] [some (n0,ty0)] τ
theorem zdc6 (v0 : Int) (v2 : (List ac)) (v3 : Int) (v1 : (List Int)) (v4 : Int) (r : (List Int)) (h : jt v0 v2 v3 v1 v4 = some r) : nv v0 v2 v3 v1 v4 r := by
 refine bf (f := fun st => dv v0 v2 v3 st.1 st.2) (P := fun st r => ∀ (v1 : (List Int)) (v4 : Int),(v1,v4) = st → nv v0 v2 v3 v1 v4 r) ?_ h v1 v4 rfl
 clear h r v4 v1
 intro st o h r ih v1 v4 hst τ o0 n0 ty0 hnn0 hty0 hl ha0 hi0 Q hQ0
 subst hst
 have h : dv v0 v2 v3 v1 v4 = some o := h
 unfold dv at h
 subst hnn0
 refine jo fun LQ hn hr he => ?_
 by_cases c1 : v4 < v3
 · rw [if_pos c1] at h
   obtain ⟨y2,hy2,h⟩ := ob h
   have f3 := aw hy2
   have f3a := (f3.2.2 ac.tv).1
   have f3b := (f3.2.2 ac.tv).2
   try simp only [CL] at f3 f3a f3b
   obtain ⟨y4,hy4,h⟩ := ob h
   have k5 := zdcj (⟨y2.From,y2.To,y2.Ledger,y2.Asset,y2.Amount⟩ : ac) v0 _ hy4
   try simp only [] at k5
   by_cases c6 : y4 = true
   · rw [if_pos c6] at h
     obtain ⟨c7,h⟩ := ifS h
     have f8 : 1 ≤ maxLen := by unfold maxLen; omega
     have f9 : v1.length + 1 ≤ maxLen := by unfold maxLen; omega
     have f10 : ((List.map (TV.int .i64) v1).all fun e => e.cells.length == 1) = true := zbmt (fun _ => rfl) _
     have f11 : List.map (TV.int .i64) v1 ++ List.map (TV.int .i64) [v4] = List.map (TV.int .i64) (v1 ++ [v4]) := zbu3 _ _
     try simp only [List.map_cons,List.map_nil] at f11
     injection h with h; subst h
     have ih := ih (v1 ++ [v4]) (IntKind.i64.wrap (v4 + (1 : Int))) rfl
     unfold nv at ih
     simp only [kc,jg,TT,Ic.t,ci,reduceEqDiff,reduceAdd,reduceLT,reduceLeDiff,reduceCtorEq,hl,ha0,hi0,hty0,c1,f3.1,f3.2.1,f3a,k5,c6,c7,f8,f9,f10,f11]
     rw [hn]
     simp only [TT,reduceEqDiff,reduceLT,hi0]
     exact ih τ o0 (v1.length + 1) cy (by simp []) (by exact Or.inr rfl) (by assumption) (by simp only [ha0]) (by assumption) Q hQ0
   rw [if_neg c6] at h
   have c6 := Bool.eq_false_iff.2 c6
   injection h with h; subst h
   have ih := ih v1 (IntKind.i64.wrap (v4 + (1 : Int))) rfl
   unfold nv at ih
   simp only [kc,jg,TT,Ic.t,ci,reduceEqDiff,reduceAdd,reduceLT,reduceLeDiff,reduceCtorEq,hl,ha0,hi0,hty0,c1,f3.1,f3.2.1,f3a,k5,c6]
   rw [hn]
   simp only [TT,reduceEqDiff,reduceLT,hi0]
   exact ih τ o0 _ ty0 (by rfl) (by exact hty0) (by assumption) (by simp only [ha0]) (by assumption) Q hQ0
 rw [if_neg c1] at h
 injection h with h; subst h
 obtain rfl : _ = r := ih
 simp only [kc,jg,TT,Ic.t,ci,reduceEqDiff,reduceAdd,reduceCtorEq,hl,he,c1]
 exact hQ0 _ _ _ ty0 (by exact hty0) (by rfl) (by rfl) (by simp only [TT])
def xb (p1 : aa) (p2 : Int) : Option (List Int) :=
 mv p1 >>= fun y1 =>
 if y1 = true then
  jt p2 p1.Arcs ((p1.Arcs.length : Nat) : Int) [] (0 : Int) >>= fun y4 =>
  some y4
 else
 some []
theorem zc0q (p1 : aa) (p2 : Int) (r : (List Int)) (h : xb p1 p2 = some r) (τ : TH) (o0 : Nat) (hl : τ.lock ≤ τ.next) (ha0 : τ.at o0 = some ⟨cy,[.int .i64 p2]⟩) (hi0 : o0 < τ.next) : Ru G ms [.agg [.str p1.ID,.sl (List.map ag.tv p1.Parties),.sl (List.map ac.tv p1.Arcs),.sl (List.map (TV.int .i64) p1.Leaders),.sl (List.map TV.str p1.Locks),.int .i64 p1.Start,.int .i64 p1.Delta],.func kl [] [.ptr o0 0]] τ (.sl (List.map (TV.int .i64) r)) τ := by
 refine jv fun K hK => ?_
 rw [bh zcsh (Nat.le_of_ble_eq_true rfl)]
 unfold xb at h
 obtain ⟨y1,hy1,h⟩ := ob h
 have k2 := wx p1 _ hy1
 try simp only [CL,MC,reduceToNat] at k2
 by_cases c3 : y1 = true
 · rw [if_pos c3] at h
   obtain ⟨y4,hy4,h⟩ := ob h
   simp only [jg,TT,Ic.t,ci,reduceEqDiff,reduceAdd,reduceCtorEq,hl,k2,c3]
   have Sy4 := zdc6 p2 p1.Arcs ((p1.Arcs.length : Nat) : Int) [] (0 : Int) y4 hy4
   unfold nv at Sy4
   refine Sy4 _ o0 0 0 (by rfl) (by exact Or.inl rfl) (by simp only [aj,ap]; omega) (by simp only [TT,ha0,hi0]) (by simp only [aj]; omega) _ ?_
   intro frq5 tkq5 τq5 u0q5 uh0q5 g5q5 htq5 hcq5
   have hcq5 := az (n := τ.next + 1) hcq5 (by simp only [aj]; omega)
   try simp only [List.take_succ_cons,List.take_zero,List.take_nil,CL] at htq5
   try simp only [TT] at hcq5
   injection h with h; subst h
   simp only [TT,reduceLT,g5q5,htq5,hcq5]
   first | exact hK | (simp only [hl,ha0,hi0,k2,c3,uh0q5,g5q5,htq5,hcq5,CL] at hK; exact hK)
 rw [if_neg c3] at h
 have c3 := Bool.eq_false_iff.2 c3
 injection h with h; subst h
 simp only [jg,TT,Ic.t,ci,reduceEqDiff,reduceAdd,reduceCtorEq,hl,k2,c3]
 first | exact hK | (simp only [hl,ha0,hi0,k2,c3,CL] at hK; exact hK)
theorem zdb5 (p1 : aa) (p2 : Int) (r : (List Int)) (h : xb p1 p2 = some r) (lk : Bool) (d : Option Nat) (K : au) (fr : TF) (tk : TK) (τ : TH) (o0 : Nat) (hl : τ.lock ≤ τ.next) (ha0 : τ.at o0 = some ⟨cy,[.int .i64 p2]⟩) (hi0 : o0 < τ.next) : eo G lk ms [.agg [.str p1.ID,.sl (List.map ag.tv p1.Parties),.sl (List.map ac.tv p1.Arcs),.sl (List.map (TV.int .i64) p1.Leaders),.sl (List.map TV.str p1.Locks),.int .i64 p1.Start,.int .i64 p1.Delta],.func kl [] [.ptr o0 0]] d K fr tk τ = K (fv fr d (.sl (List.map (TV.int .i64) r))) tk τ :=
 av (zc0q p1 p2 r h τ o0 hl ha0 hi0) (zc0q p1 p2 r h (τ.locked τ.next) o0 (Nat.le_refl _) (by rw [zbls]; exact ha0) hi0) (by simp only [TT,hi0])
def qj (p1 : aa) (p2 : Int) : Option (List Int) :=
 xb p1 p2 >>= fun y1 =>
 some y1
theorem zcya (p1 : aa) (p2 : Int) (r : (List Int)) (h : qj p1 p2 = some r) (τ : TH) (hl : τ.lock ≤ τ.next) : Ru G qx [.agg [.str p1.ID,.sl (List.map ag.tv p1.Parties),.sl (List.map ac.tv p1.Arcs),.sl (List.map (TV.int .i64) p1.Leaders),.sl (List.map TV.str p1.Locks),.int .i64 p1.Start,.int .i64 p1.Delta],.int .i64 p2] τ (.sl (List.map (TV.int .i64) r)) τ := by
 refine jv fun K hK => ?_
 rw [bh zde3 (Nat.le_of_ble_eq_true rfl)]
 unfold qj at h
 obtain ⟨y1,hy1,h⟩ := ob h
 have k2 := zdb5 p1 p2 _ hy1
 try simp only [CL,MC,reduceToNat] at k2
 injection h with h; subst h
 simp only [zdd6,TT,Ic.t,reduceEqDiff,reduceAdd,reduceLT,reduceCtorEq,hl,k2]
 exact hK
theorem zcx9 (p1 : aa) (p2 : Int) (r : (List Int)) (h : qj p1 p2 = some r) (lk : Bool) (d : Option Nat) (K : au) (fr : TF) (tk : TK) (τ : TH) (hl : τ.lock ≤ τ.next) : eo G lk qx [.agg [.str p1.ID,.sl (List.map ag.tv p1.Parties),.sl (List.map ac.tv p1.Arcs),.sl (List.map (TV.int .i64) p1.Leaders),.sl (List.map TV.str p1.Locks),.int .i64 p1.Start,.int .i64 p1.Delta],.int .i64 p2] d K fr tk τ = K (fv fr d (.sl (List.map (TV.int .i64) r))) tk τ :=
 av (zcya p1 p2 r h τ hl) (zcya p1 p2 r h (τ.locked τ.next) (Nat.le_refl _) ) (by simp only [TT])
def up : Option Bool :=
 zb6u (3 : Int) (5 : Int) (6 : Int) >>= fun y1 =>
 ov y1 >>= fun y3 =>
 if y3 = true then
  qd y1 [(0 : Int),(1 : Int),(2 : Int)] >>= fun y6 =>
  if y6 = true then
   qd y1 [(0 : Int),(2 : Int)] >>= fun y9 =>
   if y9 = true then
    some false
   else
   qk y1 (0 : Int) >>= fun y12 =>
   if ((y12.length : Nat) : Int) = (1 : Int) then
    qj y1 (0 : Int) >>= fun y15 =>
    if ((y15.length : Nat) : Int) = (1 : Int) then
     ov (⟨(⟨#[]⟩ : ByteArray),[],[],[],[],(0 : Int),(0 : Int)⟩ : aa) >>= fun y18 =>
     some (!y18)
    else
    some false
   else
   some false
  else
  some false
 else
 some false
theorem zcr4 (r : Bool) (h : up = some r) (τ : TH) (hl : τ.lock ≤ τ.next) : Ru G za [] τ (.bool r) τ := by
 refine jv fun K hK => ?_
 rw [bh zc98 (Nat.le_of_ble_eq_true rfl)]
 unfold up at h
 obtain ⟨y1,hy1,h⟩ := ob h
 have k2 := zdbd (3 : Int) (5 : Int) (6 : Int) _ hy1
 try simp only [CL] at k2
 obtain ⟨y3,hy3,h⟩ := ob h
 have k4 := zcfq y1 _ hy3
 try simp only [CL,MC,reduceToNat] at k4
 by_cases c5 : y3 = true
 · rw [if_pos c5] at h
   obtain ⟨y6,hy6,h⟩ := ob h
   have k7 := zcfd y1 [(0 : Int),(1 : Int),(2 : Int)] _ hy6
   try simp only [MC] at k7
   by_cases c8 : y6 = true
   · rw [if_pos c8] at h
     obtain ⟨y9,hy9,h⟩ := ob h
     have k10 := zcfd y1 [(0 : Int),(2 : Int)] _ hy9
     try simp only [MC] at k10
     by_cases c11 : y9 = true
     · rw [if_pos c11] at h
       injection h with h; subst h
       simp only [zb5p,TT,Ic.t,ci,reduceEqDiff,reduceAdd,reduceCtorEq,hl,k2,k4,c5,k7,c8,k10,c11]
       first | exact hK | (simp only [hl,k2,k4,c5,k7,c8,k10,c11,CL] at hK; exact hK)
     rw [if_neg c11] at h
     have c11 := Bool.eq_false_iff.2 c11
     obtain ⟨y12,hy12,h⟩ := ob h
     have k13 := zcx7 y1 (0 : Int) _ hy12
     try simp only [CL,MC,reduceToNat] at k13
     by_cases c14 : ((y12.length : Nat) : Int) = (1 : Int)
     · rw [if_pos c14] at h
       obtain ⟨y15,hy15,h⟩ := ob h
       have k16 := zcx9 y1 (0 : Int) _ hy15
       try simp only [CL,MC,reduceToNat] at k16
       by_cases c17 : ((y15.length : Nat) : Int) = (1 : Int)
       · rw [if_pos c17] at h
         obtain ⟨y18,hy18,h⟩ := ob h
         have k19 := zcfq (⟨(⟨#[]⟩ : ByteArray),[],[],[],[],(0 : Int),(0 : Int)⟩ : aa) _ hy18
         try simp only [MC] at k19
         injection h with h; subst h
         simp only [zb5p,TT,Ic.t,ci,reduceEqDiff,reduceAdd,reduceCtorEq,hl,k2,k4,c5,k7,c8,k10,c11,k13,eq_true c14,k16,eq_true c17,k19]
         first | exact hK | (simp only [hl,k2,k4,c5,k7,c8,k10,c11,k13,eq_true c14,k16,eq_true c17,k19,CL] at hK; exact hK)
       rw [if_neg c17] at h
       injection h with h; subst h
       simp only [zb5p,TT,Ic.t,ci,reduceEqDiff,reduceAdd,reduceCtorEq,hl,k2,k4,c5,k7,c8,k10,c11,k13,eq_true c14,k16,c17]
       first | exact hK | (simp only [hl,k2,k4,c5,k7,c8,k10,c11,k13,eq_true c14,k16,c17,CL] at hK; exact hK)
     rw [if_neg c14] at h
     injection h with h; subst h
     simp only [zb5p,TT,Ic.t,ci,reduceEqDiff,reduceAdd,reduceCtorEq,hl,k2,k4,c5,k7,c8,k10,c11,k13,c14]
     first | exact hK | (simp only [hl,k2,k4,c5,k7,c8,k10,c11,k13,c14,CL] at hK; exact hK)
   rw [if_neg c8] at h
   have c8 := Bool.eq_false_iff.2 c8
   injection h with h; subst h
   simp only [zb5p,TT,Ic.t,ci,reduceEqDiff,reduceAdd,reduceCtorEq,hl,k2,k4,c5,k7,c8]
   first | exact hK | (simp only [hl,k2,k4,c5,k7,c8,CL] at hK; exact hK)
 rw [if_neg c5] at h
 have c5 := Bool.eq_false_iff.2 c5
 injection h with h; subst h
 simp only [zb5p,TT,Ic.t,ci,reduceEqDiff,reduceAdd,reduceCtorEq,hl,k2,k4,c5]
 first | exact hK | (simp only [hl,k2,k4,c5,CL] at hK; exact hK)
theorem zce1 (r : Bool) (h : up = some r) (lk : Bool) (d : Option Nat) (K : au) (fr : TF) (tk : TK) (τ : TH) (hl : τ.lock ≤ τ.next) : eo G lk za [] d K fr tk τ = K (fv fr d (.bool r)) tk τ :=
 av (zcr4 r h τ hl) (zcr4 r h (τ.locked τ.next) (Nat.le_refl _) ) (by simp only [TT])
def zt (p1 : ByteArray) : Option Bool :=
 if (1 : Int) ≤ ((p1.size : Nat) : Int) then
  some (decide (((p1.size : Nat) : Int) ≤ (16 : Int)))
 else
 some false
theorem zcp8 (p1 : ByteArray) (r : Bool) (h : zt p1 = some r) (τ : TH) (hl : τ.lock ≤ τ.next) : Ru G zx [.str p1] τ (.bool r) τ := by
 refine jv fun K hK => ?_
 rw [bh zbny (Nat.le_of_ble_eq_true rfl)]
 unfold zt at h
 by_cases c1 : (1 : Int) ≤ ((p1.size : Nat) : Int)
 · rw [if_pos c1] at h
   injection h with h; subst h
   simp only [zc47,TT,Ic.t,ci,reduceEqDiff,reduceCtorEq,c1]
   exact hK
 rw [if_neg c1] at h
 injection h with h; subst h
 simp only [zc47,TT,Ic.t,ci,reduceEqDiff,reduceCtorEq,c1]
 exact hK
theorem zcdv (p1 : ByteArray) (r : Bool) (h : zt p1 = some r) (lk : Bool) (d : Option Nat) (K : au) (fr : TF) (tk : TK) (τ : TH) (hl : τ.lock ≤ τ.next) : eo G lk zx [.str p1] d K fr tk τ = K (fv fr d (.bool r)) tk τ :=
 av (zcp8 p1 r h τ hl) (zcp8 p1 r h (τ.locked τ.next) (Nat.le_refl _) ) (by simp only [TT])
def dm (v0 : aa) (v1 : Int) (v2 : Int) (v3 : Int) : Option (LS (Int) (LX (Unit) (Bool))) :=
 if v3 < v2 then
  ixL v0.Leaders v3 >>= fun y2 =>
  ixL v0.Leaders v2 >>= fun y4 =>
  if y2 = y4 then
   some (.dn (.rt false))
  else
  some (.nx (IntKind.i64.wrap (v3 + (1 : Int))))
 else
 some (.dn (.ex ()))
def fp (v0 : aa) (v1 : Int) (v2 : Int) (v3 : Int) : Option (LX (Unit) (Bool)) := kx (fun st => dm v0 v1 v2 st) v3
theorem yv (v0 : aa) (v1 : Int) (v2 : Int) (v3 : Int) : fp v0 v1 v2 v3 = dm v0 v1 v2 v3 >>= LS.go (fun st => fp v0 v1 v2 st) := bu (fun st => dm v0 v1 v2 st) v3
def ta (v0 : aa) (v1 : Int) (v2 : Int) (v3 : Int) (r : LX (Unit) (Bool)) : Prop := ∀ (τ : TH) (o0 : Nat) (hl : τ.lock ≤ τ.next) (ha0 : τ.at o0 = some ⟨am,[.str v0.ID,.sl (List.map ag.tv v0.Parties),.sl (List.map ac.tv v0.Arcs),.sl (List.map (TV.int .i64) v0.Leaders),.sl (List.map TV.str v0.Locks),.int .i64 v0.Start,.int .i64 v0.Delta]⟩) (hi0 : o0 < τ.next) (Q : TEx → au) (hQ0 : ∀ v : Unit,r = (.ex v) → ∀ (fr : TF) (tk2 : TK) (τ2 : TH),lkp fr 1 = .ptr o0 0 → lkp fr 3 = .int .i64 v1 → lkp fr 4 = .int .i64 v2 → tk2.take 0 = [] → τ2.cut τ.next = τ → Q (.exit 2) fr tk2 τ2) (hQ1 : ∀ v : Bool,r = (.rt v) → ∀ (tk2 : TK) (τ2 : TH),τ2.cut τ.next = τ → Q .ret [(2,.bool v)] tk2 τ2) ,tW G (.loop [1,3,4,5] t4) Q [(1,.ptr o0 0),(3,.int .i64 v1),(4,.int .i64 v2),(5,.int .i64 v3)] [] τ
theorem zdcq (v0 : aa) (v1 : Int) (v2 : Int) (v3 : Int) (r : LX (Unit) (Bool)) (h : fp v0 v1 v2 v3 = some r) : ta v0 v1 v2 v3 r := by
 refine bf (f := fun st => dm v0 v1 v2 st) (P := fun st r => ∀ (v3 : Int),v3 = st → ta v0 v1 v2 v3 r) ?_ h v3 rfl
 clear h r v3
 intro st o h r ih v3 hst τ o0 hl ha0 hi0 Q hQ0 hQ1
 subst hst
 have h : dm v0 v1 v2 v3 = some o := h
 unfold dm at h
 refine jo fun LQ hn hr he => ?_
 by_cases c1 : v3 < v2
 · rw [if_pos c1] at h
   obtain ⟨y2,hy2,h⟩ := ob h
   have f3 := aw hy2
   have f3a := (f3.2.2 (TV.int .i64)).1
   have f3b := (f3.2.2 (TV.int .i64)).2
   try simp only [CL,MC,reduceToNat] at f3 f3a f3b
   obtain ⟨y4,hy4,h⟩ := ob h
   have f5 := aw hy4
   have f5a := (f5.2.2 (TV.int .i64)).1
   have f5b := (f5.2.2 (TV.int .i64)).2
   try simp only [CL,MC,reduceToNat] at f5 f5a f5b
   by_cases c6 : y2 = y4
   · rw [if_pos c6] at h
     injection h with h; subst h
     obtain rfl : _ = r := ih
     simp only [t4,dz,TT,Ic.t,ci,reduceEqDiff,ha0,hi0,he,hr,c1,f3.1,f3.2.1,f3a,f5.1,f5.2.1,f5a,eq_true c6]
     exact hQ1 false rfl _ _ (by simp only [TT])
   rw [if_neg c6] at h
   injection h with h; subst h
   have ih := ih (IntKind.i64.wrap (v3 + (1 : Int))) rfl
   unfold ta at ih
   simp only [t4,dz,TT,Ic.t,ci,reduceEqDiff,reduceCtorEq,ha0,hi0,c1,f3.1,f3.2.1,f3a,f5.1,f5.2.1,f5a,c6]
   rw [hn]
   simp only [TT,reduceEqDiff,hi0]
   exact ih τ o0 (by assumption) (by simp only [ha0]) (by assumption) Q hQ0 hQ1
 rw [if_neg c1] at h
 injection h with h; subst h
 obtain rfl : _ = r := ih
 simp only [t4,dz,TT,Ic.t,ci,reduceEqDiff,reduceCtorEq,ha0,he,c1]
 exact hQ0 () rfl _ _ _ (by rfl) (by rfl) (by rfl) (by rfl) (by simp only [TT])
def dp (v0 : aa) (v1 : Int) (v2 : Int) : Option (LS (Int) (LX (Unit) (Bool))) :=
 if v2 < v1 then
  ixL v0.Leaders v2 >>= fun y2 =>
  if y2 < (0 : Int) then
   some (.dn (.rt false))
  else
  if ((v0.Parties.length : Nat) : Int) ≤ y2 then
   some (.dn (.rt false))
  else
  ixL v0.Locks v2 >>= fun y6 =>
  if ((y6.size : Nat) : Int) = (32 : Int) then
   fp v0 v1 v2 (0 : Int) >>= fun y9 =>
   match y9 with
   | .ex w10 =>
    some (.nx (IntKind.i64.wrap (v2 + (1 : Int))))
   | .rt w12 =>
    some (.dn (.rt w12))
  else
  some (.dn (.rt false))
 else
 some (.dn (.ex ()))
def fq (v0 : aa) (v1 : Int) (v2 : Int) : Option (LX (Unit) (Bool)) := kx (fun st => dp v0 v1 st) v2
theorem yw (v0 : aa) (v1 : Int) (v2 : Int) : fq v0 v1 v2 = dp v0 v1 v2 >>= LS.go (fun st => fq v0 v1 st) := bu (fun st => dp v0 v1 st) v2
def tc (v0 : aa) (v1 : Int) (v2 : Int) (r : LX (Unit) (Bool)) : Prop := ∀ (τ : TH) (o0 : Nat) (hl : τ.lock ≤ τ.next) (ha0 : τ.at o0 = some ⟨am,[.str v0.ID,.sl (List.map ag.tv v0.Parties),.sl (List.map ac.tv v0.Arcs),.sl (List.map (TV.int .i64) v0.Leaders),.sl (List.map TV.str v0.Locks),.int .i64 v0.Start,.int .i64 v0.Delta]⟩) (hi0 : o0 < τ.next) (Q : TEx → au) (hQ0 : ∀ v : Unit,r = (.ex v) → ∀ (fr : TF) (tk2 : TK) (τ2 : TH),tk2.take 0 = [] → τ2.cut τ.next = τ → Q (.exit 0) fr tk2 τ2) (hQ1 : ∀ v : Bool,r = (.rt v) → ∀ (tk2 : TK) (τ2 : TH),τ2.cut τ.next = τ → Q .ret [(2,.bool v)] tk2 τ2) ,tW G (.loop [1,3,4] kd) Q [(1,.ptr o0 0),(3,.int .i64 v1),(4,.int .i64 v2)] [] τ
theorem zdcp (v0 : aa) (v1 : Int) (v2 : Int) (r : LX (Unit) (Bool)) (h : fq v0 v1 v2 = some r) : tc v0 v1 v2 r := by
 refine bf (f := fun st => dp v0 v1 st) (P := fun st r => ∀ (v2 : Int),v2 = st → tc v0 v1 v2 r) ?_ h v2 rfl
 clear h r v2
 intro st o h r ih v2 hst τ o0 hl ha0 hi0 Q hQ0 hQ1
 subst hst
 have h : dp v0 v1 v2 = some o := h
 unfold dp at h
 refine jo fun LQ hn hr he => ?_
 by_cases c1 : v2 < v1
 · rw [if_pos c1] at h
   obtain ⟨y2,hy2,h⟩ := ob h
   have f3 := aw hy2
   have f3a := (f3.2.2 (TV.int .i64)).1
   have f3b := (f3.2.2 (TV.int .i64)).2
   try simp only [CL,MC,reduceToNat] at f3 f3a f3b
   by_cases c4 : y2 < (0 : Int)
   · rw [if_pos c4] at h
     injection h with h; subst h
     obtain rfl : _ = r := ih
     simp only [kd,dz,TT,Ic.t,ci,reduceEqDiff,ha0,he,hr,c1,f3.1,f3.2.1,f3a,c4]
     exact hQ1 false rfl _ _ (by simp only [TT])
   rw [if_neg c4] at h
   by_cases c5 : ((v0.Parties.length : Nat) : Int) ≤ y2
   · rw [if_pos c5] at h
     injection h with h; subst h
     obtain rfl : _ = r := ih
     simp only [kd,dz,TT,Ic.t,ci,reduceEqDiff,ha0,he,hr,c1,f3.1,f3.2.1,f3a,c4,c5]
     exact hQ1 false rfl _ _ (by simp only [TT])
   rw [if_neg c5] at h
   obtain ⟨y6,hy6,h⟩ := ob h
   have f7 := aw hy6
   have f7a := (f7.2.2 TV.str).1
   have f7b := (f7.2.2 TV.str).2
   try simp only [CL,MC,reduceToNat] at f7 f7a f7b
   by_cases c8 : ((y6.size : Nat) : Int) = (32 : Int)
   · rw [if_pos c8] at h
     obtain ⟨y9,hy9,h⟩ := ob h
     simp only [kd,dz,TT,Ic.t,ci,reduceEqDiff,reduceCtorEq,ha0,c1,f3.1,f3.2.1,f3a,c4,c5,f7.2.1,f7a,eq_true c8]
     have Sy9 := zdcq v0 v1 v2 (0 : Int) y9 hy9
     unfold ta at Sy9
     refine Sy9 _ o0 (by assumption) (by simp only [ha0]) (by assumption) _ ?_ ?_
     · intro w10 e frq11 tkq11 τq11 g1q11 g3q11 g4q11 htq11 hcq11
       subst e
       simp only at h
       have hcq11 := az (n := τ.next) hcq11 (by omega)
       try simp only [List.take_zero] at htq11
       try simp only [TT] at hcq11
       injection h with h; subst h
       have ih := ih (IntKind.i64.wrap (v2 + (1 : Int))) rfl
       unfold tc at ih
       simp only [TT,reduceEqDiff,hi0,g1q11,g3q11,g4q11,hcq11]
       rw [hn]
       simp only [TT,reduceEqDiff,hi0]
       exact ih τ o0 (by assumption) (by simp only [ha0]) (by assumption) Q hQ0 hQ1
     intro w12 e tkq13 τq13 hcq13
     subst e
     simp only at h
     have hcq13 := az (n := τ.next) hcq13 (by omega)
     try simp only [TT] at hcq13
     injection h with h; subst h
     obtain rfl : _ = r := ih
     simp only [TT,hr]
     exact hQ1 w12 rfl _ _ (by simp only [hcq13])
   rw [if_neg c8] at h
   injection h with h; subst h
   obtain rfl : _ = r := ih
   simp only [kd,dz,TT,Ic.t,ci,reduceEqDiff,ha0,he,hr,c1,f3.1,f3.2.1,f3a,c4,c5,f7.2.1,f7a,c8]
   exact hQ1 false rfl _ _ (by simp only [TT])
 rw [if_neg c1] at h
 injection h with h; subst h
 obtain rfl : _ = r := ih
 simp only [kd,dz,TT,Ic.t,ci,reduceEqDiff,reduceCtorEq,ha0,he,c1]
 exact hQ0 () rfl _ _ _ (by rfl) (by simp only [TT])
def qt (p1 : aa) : Option Bool :=
 if ((p1.Leaders.length : Nat) : Int) < (1 : Int) then
  some false
 else
 if (3 : Int) < ((p1.Leaders.length : Nat) : Int) then
  some false
 else
 if ((p1.Locks.length : Nat) : Int) = ((p1.Leaders.length : Nat) : Int) then
  fq p1 ((p1.Leaders.length : Nat) : Int) (0 : Int) >>= fun y4 =>
  match y4 with
  | .ex w5 =>
   some true
  | .rt w7 =>
   some w7
 else
 some false
theorem zcxu (p1 : aa) (r : Bool) (h : qt p1 = some r) (τ : TH) (hl : τ.lock ≤ τ.next) : Ru G vd [.agg [.str p1.ID,.sl (List.map ag.tv p1.Parties),.sl (List.map ac.tv p1.Arcs),.sl (List.map (TV.int .i64) p1.Leaders),.sl (List.map TV.str p1.Locks),.int .i64 p1.Start,.int .i64 p1.Delta]] τ (.bool r) τ := by
 refine jv fun K hK => ?_
 rw [bh zdel (Nat.le_of_ble_eq_true rfl)]
 unfold qt at h
 by_cases c1 : ((p1.Leaders.length : Nat) : Int) < (1 : Int)
 · rw [if_pos c1] at h
   injection h with h; subst h
   simp only [dz,TT,Ic.t,ci,reduceEqDiff,c1]
   exact hK
 rw [if_neg c1] at h
 by_cases c2 : (3 : Int) < ((p1.Leaders.length : Nat) : Int)
 · rw [if_pos c2] at h
   injection h with h; subst h
   simp only [dz,TT,Ic.t,ci,reduceEqDiff,c1,c2]
   exact hK
 rw [if_neg c2] at h
 by_cases c3 : ((p1.Locks.length : Nat) : Int) = ((p1.Leaders.length : Nat) : Int)
 · rw [if_pos c3] at h
   obtain ⟨y4,hy4,h⟩ := ob h
   simp only [dz,TT,Ic.t,ci,reduceEqDiff,reduceCtorEq,c1,c2,eq_true c3]
   have Sy4 := zdcp p1 ((p1.Leaders.length : Nat) : Int) (0 : Int) y4 hy4
   unfold tc at Sy4
   refine Sy4 _ τ.next (by simp only [aj,ap]; omega) (by simp only [TT]) (by simp only [aj]; omega) _ ?_ ?_
   · intro w5 e frq6 tkq6 τq6 htq6 hcq6
     subst e
     simp only at h
     have hcq6 := az (n := τ.next + 1) hcq6 (by simp only [aj]; omega)
     try simp only [List.take_zero] at htq6
     try simp only [TT] at hcq6
     injection h with h; subst h
     simp only [TT,hcq6]
     exact hK
   intro w7 e tkq8 τq8 hcq8
   subst e
   simp only at h
   have hcq8 := az (n := τ.next) hcq8 (by simp only [aj]; omega)
   try simp only [TT] at hcq8
   injection h with h; subst h
   simp only [TT,hcq8]
   exact hK
 rw [if_neg c3] at h
 injection h with h; subst h
 simp only [dz,TT,Ic.t,ci,reduceEqDiff,c1,c2,c3]
 exact hK
theorem zdf0 (p1 : aa) (r : Bool) (h : qt p1 = some r) (lk : Bool) (d : Option Nat) (K : au) (fr : TF) (tk : TK) (τ : TH) (hl : τ.lock ≤ τ.next) : eo G lk vd [.agg [.str p1.ID,.sl (List.map ag.tv p1.Parties),.sl (List.map ac.tv p1.Arcs),.sl (List.map (TV.int .i64) p1.Leaders),.sl (List.map TV.str p1.Locks),.int .i64 p1.Start,.int .i64 p1.Delta]] d K fr tk τ = K (fv fr d (.bool r)) tk τ :=
 av (zcxu p1 r h τ hl) (zcxu p1 r h (τ.locked τ.next) (Nat.le_refl _) ) (by simp only [TT])
def dk (v0 : aa) (v1 : Int) (v2 : Int) (v3 : ag) (v4 : Int) : Option (LS (Int) (LX (Unit) (Bool))) :=
 if v4 < ((v3.Keys.length : Nat) : Int) then
  ixL v3.Keys v4 >>= fun y2 =>
  if ((y2.size : Nat) : Int) = (16 : Int) then
   some (.nx (IntKind.i64.wrap (v4 + (1 : Int))))
  else
  some (.dn (.rt false))
 else
 some (.dn (.ex ()))
def fk (v0 : aa) (v1 : Int) (v2 : Int) (v3 : ag) (v4 : Int) : Option (LX (Unit) (Bool)) := kx (fun st => dk v0 v1 v2 v3 st) v4
theorem yr (v0 : aa) (v1 : Int) (v2 : Int) (v3 : ag) (v4 : Int) : fk v0 v1 v2 v3 v4 = dk v0 v1 v2 v3 v4 >>= LS.go (fun st => fk v0 v1 v2 v3 st) := bu (fun st => dk v0 v1 v2 v3 st) v4
def su (v0 : aa) (v1 : Int) (v2 : Int) (v3 : ag) (v4 : Int) (r : LX (Unit) (Bool)) : Prop := ∀ (τ : TH) (o0 : Nat) (o1 : Nat) (hl : τ.lock ≤ τ.next) (ha0 : τ.at o0 = some ⟨am,[.str v0.ID,.sl (List.map ag.tv v0.Parties),.sl (List.map ac.tv v0.Arcs),.sl (List.map (TV.int .i64) v0.Leaders),.sl (List.map TV.str v0.Locks),.int .i64 v0.Start,.int .i64 v0.Delta]⟩) (hi0 : o0 < τ.next) (ha1 : τ.at o1 = some ⟨jj,[.str v3.Account,.sl (List.map TV.str v3.Keys)]⟩) (hi1 : o1 < τ.next) (Q : TEx → au) (hQ0 : ∀ v : Unit,r = (.ex v) → ∀ (fr : TF) (tk2 : TK) (τ2 : TH),lkp fr 1 = .ptr o0 0 → lkp fr 3 = .int .i64 v1 → lkp fr 4 = .int .i64 v2 → lkp fr 5 = .ptr o1 0 → tk2.take 0 = [] → τ2.cut τ.next = τ → Q (.exit 2) fr tk2 τ2) (hQ1 : ∀ v : Bool,r = (.rt v) → ∀ (tk2 : TK) (τ2 : TH),τ2.cut τ.next = τ → Q .ret [(2,.bool v)] tk2 τ2) ,tW G (.loop [1,3,4,5,6] tz) Q [(1,.ptr o0 0),(3,.int .i64 v1),(4,.int .i64 v2),(5,.ptr o1 0),(6,.int .i64 v4)] [] τ
theorem zdcs (v0 : aa) (v1 : Int) (v2 : Int) (v3 : ag) (v4 : Int) (r : LX (Unit) (Bool)) (h : fk v0 v1 v2 v3 v4 = some r) : su v0 v1 v2 v3 v4 r := by
 refine bf (f := fun st => dk v0 v1 v2 v3 st) (P := fun st r => ∀ (v4 : Int),v4 = st → su v0 v1 v2 v3 v4 r) ?_ h v4 rfl
 clear h r v4
 intro st o h r ih v4 hst τ o0 o1 hl ha0 hi0 ha1 hi1 Q hQ0 hQ1
 subst hst
 have h : dk v0 v1 v2 v3 v4 = some o := h
 unfold dk at h
 refine jo fun LQ hn hr he => ?_
 by_cases c1 : v4 < ((v3.Keys.length : Nat) : Int)
 · rw [if_pos c1] at h
   obtain ⟨y2,hy2,h⟩ := ob h
   have f3 := aw hy2
   have f3a := (f3.2.2 TV.str).1
   have f3b := (f3.2.2 TV.str).2
   try simp only [CL,MC,reduceToNat] at f3 f3a f3b
   by_cases c4 : ((y2.size : Nat) : Int) = (16 : Int)
   · rw [if_pos c4] at h
     injection h with h; subst h
     have ih := ih (IntKind.i64.wrap (v4 + (1 : Int))) rfl
     unfold su at ih
     simp only [tz,cj,TT,Ic.t,ci,reduceEqDiff,reduceCtorEq,hi0,ha1,hi1,c1,f3.1,f3a,eq_true c4]
     rw [hn]
     simp only [TT,reduceEqDiff,hi0,hi1]
     exact ih τ o0 o1 (by assumption) (by simp only [ha0]) (by assumption) (by simp only [ha1]) (by assumption) Q hQ0 hQ1
   rw [if_neg c4] at h
   injection h with h; subst h
   obtain rfl : _ = r := ih
   simp only [tz,cj,TT,Ic.t,ci,reduceEqDiff,hi0,ha1,hi1,he,hr,c1,f3.1,f3a,c4]
   exact hQ1 false rfl _ _ (by simp only [TT])
 rw [if_neg c1] at h
 injection h with h; subst h
 obtain rfl : _ = r := ih
 simp only [tz,cj,TT,Ic.t,ci,reduceEqDiff,reduceCtorEq,ha1,he,c1]
 exact hQ0 () rfl _ _ _ (by rfl) (by rfl) (by rfl) (by rfl) (by rfl) (by simp only [TT])
def dj (v0 : aa) (v1 : Int) (v2 : Int) (v3 : ag) (v4 : Int) : Option (LS (Int) (LX (Unit) (Bool))) :=
 if v4 < v2 then
  ixL v0.Parties v4 >>= fun y2 =>
  if y2.Account = v3.Account then
   some (.dn (.rt false))
  else
  some (.nx (IntKind.i64.wrap (v4 + (1 : Int))))
 else
 some (.dn (.ex ()))
def df (v0 : aa) (v1 : Int) (v2 : Int) (v3 : ag) (v4 : Int) : Option (LX (Unit) (Bool)) := kx (fun st => dj v0 v1 v2 v3 st) v4
theorem yq (v0 : aa) (v1 : Int) (v2 : Int) (v3 : ag) (v4 : Int) : df v0 v1 v2 v3 v4 = dj v0 v1 v2 v3 v4 >>= LS.go (fun st => df v0 v1 v2 v3 st) := bu (fun st => dj v0 v1 v2 v3 st) v4
def ss (v0 : aa) (v1 : Int) (v2 : Int) (v3 : ag) (v4 : Int) (r : LX (Unit) (Bool)) : Prop := ∀ (τ : TH) (o0 : Nat) (o1 : Nat) (hl : τ.lock ≤ τ.next) (ha0 : τ.at o0 = some ⟨am,[.str v0.ID,.sl (List.map ag.tv v0.Parties),.sl (List.map ac.tv v0.Arcs),.sl (List.map (TV.int .i64) v0.Leaders),.sl (List.map TV.str v0.Locks),.int .i64 v0.Start,.int .i64 v0.Delta]⟩) (hi0 : o0 < τ.next) (ha1 : τ.at o1 = some ⟨jj,[.str v3.Account,.sl (List.map TV.str v3.Keys)]⟩) (hi1 : o1 < τ.next) (Q : TEx → au) (hQ0 : ∀ v : Unit,r = (.ex v) → ∀ (fr : TF) (tk2 : TK) (τ2 : TH),lkp fr 1 = .ptr o0 0 → lkp fr 3 = .int .i64 v1 → lkp fr 4 = .int .i64 v2 → tk2.take 0 = [] → τ2.cut τ.next = τ → Q (.exit 4) fr tk2 τ2) (hQ1 : ∀ v : Bool,r = (.rt v) → ∀ (tk2 : TK) (τ2 : TH),τ2.cut τ.next = τ → Q .ret [(2,.bool v)] tk2 τ2) ,tW G (.loop [1,3,4,5,7] tx) Q [(1,.ptr o0 0),(3,.int .i64 v1),(4,.int .i64 v2),(5,.ptr o1 0),(7,.int .i64 v4)] [] τ
theorem zdct (v0 : aa) (v1 : Int) (v2 : Int) (v3 : ag) (v4 : Int) (r : LX (Unit) (Bool)) (h : df v0 v1 v2 v3 v4 = some r) : ss v0 v1 v2 v3 v4 r := by
 refine bf (f := fun st => dj v0 v1 v2 v3 st) (P := fun st r => ∀ (v4 : Int),v4 = st → ss v0 v1 v2 v3 v4 r) ?_ h v4 rfl
 clear h r v4
 intro st o h r ih v4 hst τ o0 o1 hl ha0 hi0 ha1 hi1 Q hQ0 hQ1
 subst hst
 have h : dj v0 v1 v2 v3 v4 = some o := h
 unfold dj at h
 refine jo fun LQ hn hr he => ?_
 by_cases c1 : v4 < v2
 · rw [if_pos c1] at h
   obtain ⟨y2,hy2,h⟩ := ob h
   have f3 := aw hy2
   have f3a := (f3.2.2 ag.tv).1
   have f3b := (f3.2.2 ag.tv).2
   try simp only [CL] at f3 f3a f3b
   by_cases c4 : y2.Account = v3.Account
   · rw [if_pos c4] at h
     injection h with h; subst h
     obtain rfl : _ = r := ih
     simp only [tx,cj,TT,Ic.t,ci,reduceEqDiff,reduceAdd,ha0,hi0,ha1,hi1,he,hr,c1,f3.1,f3.2.1,f3a,eq_true c4]
     exact hQ1 false rfl _ _ (by simp only [TT])
   rw [if_neg c4] at h
   injection h with h; subst h
   have ih := ih (IntKind.i64.wrap (v4 + (1 : Int))) rfl
   unfold ss at ih
   simp only [tx,cj,TT,Ic.t,ci,reduceEqDiff,reduceAdd,reduceCtorEq,ha0,hi0,ha1,hi1,c1,f3.1,f3.2.1,f3a,c4]
   rw [hn]
   simp only [TT,reduceEqDiff,hi0,hi1]
   exact ih τ o0 o1 (by assumption) (by simp only [ha0]) (by assumption) (by simp only [ha1]) (by assumption) Q hQ0 hQ1
 rw [if_neg c1] at h
 injection h with h; subst h
 obtain rfl : _ = r := ih
 simp only [tx,cj,TT,Ic.t,ci,reduceEqDiff,reduceCtorEq,ha0,he,c1]
 exact hQ0 () rfl _ _ _ (by rfl) (by rfl) (by rfl) (by rfl) (by simp only [TT])
def dl (v0 : aa) (v1 : Int) (v2 : Int) : Option (LS (Int) (LX (Unit) (Bool))) :=
 if v2 < v1 then
  ixL v0.Parties v2 >>= fun y2 =>
  zt y2.Account >>= fun y4 =>
  if y4 = true then
   if ((y2.Keys.length : Nat) : Int) = ((v0.Leaders.length : Nat) : Int) then
    fk v0 v1 v2 (⟨y2.Account,y2.Keys⟩ : ag) (0 : Int) >>= fun y8 =>
    match y8 with
    | .ex w9 =>
     df v0 v1 v2 (⟨y2.Account,y2.Keys⟩ : ag) (0 : Int) >>= fun y13 =>
     match y13 with
     | .ex w14 =>
      some (.nx (IntKind.i64.wrap (v2 + (1 : Int))))
     | .rt w16 =>
      some (.dn (.rt w16))
    | .rt w11 =>
     some (.dn (.rt w11))
   else
   some (.dn (.rt false))
  else
  some (.dn (.rt false))
 else
 some (.dn (.ex ()))
def fo (v0 : aa) (v1 : Int) (v2 : Int) : Option (LX (Unit) (Bool)) := kx (fun st => dl v0 v1 st) v2
theorem yu (v0 : aa) (v1 : Int) (v2 : Int) : fo v0 v1 v2 = dl v0 v1 v2 >>= LS.go (fun st => fo v0 v1 st) := bu (fun st => dl v0 v1 st) v2
def sw (v0 : aa) (v1 : Int) (v2 : Int) (r : LX (Unit) (Bool)) : Prop := ∀ (τ : TH) (o0 : Nat) (hl : τ.lock ≤ τ.next) (ha0 : τ.at o0 = some ⟨am,[.str v0.ID,.sl (List.map ag.tv v0.Parties),.sl (List.map ac.tv v0.Arcs),.sl (List.map (TV.int .i64) v0.Leaders),.sl (List.map TV.str v0.Locks),.int .i64 v0.Start,.int .i64 v0.Delta]⟩) (hi0 : o0 < τ.next) (Q : TEx → au) (hQ0 : ∀ v : Unit,r = (.ex v) → ∀ (fr : TF) (tk2 : TK) (τ2 : TH),tk2.take 0 = [] → τ2.cut τ.next = τ → Q (.exit 0) fr tk2 τ2) (hQ1 : ∀ v : Bool,r = (.rt v) → ∀ (tk2 : TK) (τ2 : TH),τ2.cut τ.next = τ → Q .ret [(2,.bool v)] tk2 τ2) ,tW G (.loop [1,3,4] i9) Q [(1,.ptr o0 0),(3,.int .i64 v1),(4,.int .i64 v2)] [] τ
theorem zdcr (v0 : aa) (v1 : Int) (v2 : Int) (r : LX (Unit) (Bool)) (h : fo v0 v1 v2 = some r) : sw v0 v1 v2 r := by
 refine bf (f := fun st => dl v0 v1 st) (P := fun st r => ∀ (v2 : Int),v2 = st → sw v0 v1 v2 r) ?_ h v2 rfl
 clear h r v2
 intro st o h r ih v2 hst τ o0 hl ha0 hi0 Q hQ0 hQ1
 subst hst
 have h : dl v0 v1 v2 = some o := h
 unfold dl at h
 refine jo fun LQ hn hr he => ?_
 by_cases c1 : v2 < v1
 · rw [if_pos c1] at h
   obtain ⟨y2,hy2,h⟩ := ob h
   have f3 := aw hy2
   have f3a := (f3.2.2 ag.tv).1
   have f3b := (f3.2.2 ag.tv).2
   try simp only [CL] at f3 f3a f3b
   obtain ⟨y4,hy4,h⟩ := ob h
   have k5 := zcdv y2.Account _ hy4
   try simp only [CL,MC,reduceToNat] at k5
   by_cases c6 : y4 = true
   · rw [if_pos c6] at h
     by_cases c7 : ((y2.Keys.length : Nat) : Int) = ((v0.Leaders.length : Nat) : Int)
     · rw [if_pos c7] at h
       obtain ⟨y8,hy8,h⟩ := ob h
       simp only [i9,cj,TT,Ic.t,ci,reduceEqDiff,reduceAdd,reduceCtorEq,hl,ha0,hi0,c1,f3.1,f3.2.1,f3a,k5,c6,eq_true c7]
       have Sy8 := zdcs v0 v1 v2 (⟨y2.Account,y2.Keys⟩ : ag) (0 : Int) y8 hy8
       unfold su at Sy8
       refine Sy8 _ o0 τ.next (by simp only [aj,ap]; omega) (by simp only [TT,ha0,hi0]) (by simp only [aj]; omega) (by simp only [TT]) (by simp only [aj]; omega) _ ?_ ?_
       · intro w9 e frq10 tkq10 τq10 g1q10 g3q10 g4q10 g5q10 htq10 hcq10
         subst e
         simp only at h
         have hcq10 := az (n := τ.next + 1) hcq10 (by simp only [aj]; omega)
         try simp only [List.take_zero] at htq10
         try simp only [TT] at hcq10
         obtain ⟨y13,hy13,h⟩ := ob h
         simp only [TT,reduceEqDiff,reduceLT,hi0,g1q10,g3q10,g4q10,g5q10,hcq10]
         have Sy13 := zdct v0 v1 v2 (⟨y2.Account,y2.Keys⟩ : ag) (0 : Int) y13 hy13
         unfold ss at Sy13
         refine Sy13 _ o0 τ.next (by simp only [aj,ap]; omega) (by simp only [TT,ha0,hi0]) (by simp only [aj]; omega) (by simp only [TT]) (by simp only [aj]; omega) _ ?_ ?_
         · intro w14 e frq15 tkq15 τq15 g1q15 g3q15 g4q15 htq15 hcq15
           subst e
           simp only at h
           have hcq15 := az (n := τ.next + 1) hcq15 (by simp only [aj]; omega)
           try simp only [List.take_zero] at htq15
           try simp only [TT] at hcq15
           injection h with h; subst h
           have ih := ih (IntKind.i64.wrap (v2 + (1 : Int))) rfl
           unfold sw at ih
           simp only [TT,reduceEqDiff,hi0,g1q15,g3q15,g4q15,hcq15]
           rw [hn]
           simp only [TT,reduceEqDiff,hi0]
           exact ih τ o0 (by assumption) (by simp only [ha0]) (by assumption) Q hQ0 hQ1
         intro w16 e tkq17 τq17 hcq17
         subst e
         simp only at h
         have hcq17 := az (n := τ.next) hcq17 (by simp only [aj]; omega)
         try simp only [TT] at hcq17
         injection h with h; subst h
         obtain rfl : _ = r := ih
         simp only [TT,hr]
         exact hQ1 w16 rfl _ _ (by simp only [hcq17])
       intro w11 e tkq12 τq12 hcq12
       subst e
       simp only at h
       have hcq12 := az (n := τ.next) hcq12 (by simp only [aj]; omega)
       try simp only [TT] at hcq12
       injection h with h; subst h
       obtain rfl : _ = r := ih
       simp only [TT,hr]
       exact hQ1 w11 rfl _ _ (by simp only [hcq12])
     rw [if_neg c7] at h
     injection h with h; subst h
     obtain rfl : _ = r := ih
     simp only [i9,cj,TT,Ic.t,ci,reduceEqDiff,reduceAdd,reduceCtorEq,hl,ha0,hi0,he,hr,c1,f3.1,f3.2.1,f3a,k5,c6,c7]
     exact hQ1 false rfl _ _ (by simp only [TT])
   rw [if_neg c6] at h
   have c6 := Bool.eq_false_iff.2 c6
   injection h with h; subst h
   obtain rfl : _ = r := ih
   simp only [i9,cj,TT,Ic.t,ci,reduceEqDiff,reduceAdd,reduceCtorEq,hl,ha0,he,hr,c1,f3.1,f3.2.1,f3a,k5,c6]
   exact hQ1 false rfl _ _ (by simp only [TT])
 rw [if_neg c1] at h
 injection h with h; subst h
 obtain rfl : _ = r := ih
 simp only [i9,cj,TT,Ic.t,ci,reduceEqDiff,reduceAdd,reduceCtorEq,hl,ha0,he,c1]
 exact hQ0 () rfl _ _ _ (by rfl) (by simp only [TT])
def qr (p1 : aa) : Option Bool :=
 if ((p1.Parties.length : Nat) : Int) < (2 : Int) then
  some false
 else
 if (6 : Int) < ((p1.Parties.length : Nat) : Int) then
  some false
 else
 fo p1 ((p1.Parties.length : Nat) : Int) (0 : Int) >>= fun y3 =>
 match y3 with
 | .ex w4 =>
  some true
 | .rt w6 =>
  some w6
theorem zcxv (p1 : aa) (r : Bool) (h : qr p1 = some r) (τ : TH) (hl : τ.lock ≤ τ.next) : Ru G vc [.agg [.str p1.ID,.sl (List.map ag.tv p1.Parties),.sl (List.map ac.tv p1.Arcs),.sl (List.map (TV.int .i64) p1.Leaders),.sl (List.map TV.str p1.Locks),.int .i64 p1.Start,.int .i64 p1.Delta]] τ (.bool r) τ := by
 refine jv fun K hK => ?_
 rw [bh zde1 (Nat.le_of_ble_eq_true rfl)]
 unfold qr at h
 by_cases c1 : ((p1.Parties.length : Nat) : Int) < (2 : Int)
 · rw [if_pos c1] at h
   injection h with h; subst h
   simp only [cj,TT,Ic.t,ci,reduceEqDiff,c1]
   exact hK
 rw [if_neg c1] at h
 by_cases c2 : (6 : Int) < ((p1.Parties.length : Nat) : Int)
 · rw [if_pos c2] at h
   injection h with h; subst h
   simp only [cj,TT,Ic.t,ci,reduceEqDiff,c1,c2]
   exact hK
 rw [if_neg c2] at h
 obtain ⟨y3,hy3,h⟩ := ob h
 simp only [cj,TT,Ic.t,ci,reduceEqDiff,reduceCtorEq,c1,c2]
 have Sy3 := zdcr p1 ((p1.Parties.length : Nat) : Int) (0 : Int) y3 hy3
 unfold sw at Sy3
 refine Sy3 _ τ.next (by simp only [aj,ap]; omega) (by simp only [TT]) (by simp only [aj]; omega) _ ?_ ?_
 · intro w4 e frq5 tkq5 τq5 htq5 hcq5
   subst e
   simp only at h
   have hcq5 := az (n := τ.next + 1) hcq5 (by simp only [aj]; omega)
   try simp only [List.take_zero] at htq5
   try simp only [TT] at hcq5
   injection h with h; subst h
   simp only [TT,hcq5]
   exact hK
 intro w6 e tkq7 τq7 hcq7
 subst e
 simp only at h
 have hcq7 := az (n := τ.next) hcq7 (by simp only [aj]; omega)
 try simp only [TT] at hcq7
 injection h with h; subst h
 simp only [TT,hcq7]
 exact hK
theorem zdf1 (p1 : aa) (r : Bool) (h : qr p1 = some r) (lk : Bool) (d : Option Nat) (K : au) (fr : TF) (tk : TK) (τ : TH) (hl : τ.lock ≤ τ.next) : eo G lk vc [.agg [.str p1.ID,.sl (List.map ag.tv p1.Parties),.sl (List.map ac.tv p1.Arcs),.sl (List.map (TV.int .i64) p1.Leaders),.sl (List.map TV.str p1.Locks),.int .i64 p1.Start,.int .i64 p1.Delta]] d K fr tk τ = K (fv fr d (.bool r)) tk τ :=
 av (zcxv p1 r h τ hl) (zcxv p1 r h (τ.locked τ.next) (Nat.le_refl _) ) (by simp only [TT])
def gq (v0 : aa) (v1 : Int) (v2 : Int) (v3 : ac) (v4 : Int) : Option (LS (Int) (LX (Unit) (Bool))) :=
 if v4 < v2 then
  ixL v0.Arcs v4 >>= fun y2 =>
  if y2.From = v3.From then
   if y2.To = v3.To then
    some (.dn (.rt false))
   else
   some (.nx (IntKind.i64.wrap (v4 + (1 : Int))))
  else
  some (.nx (IntKind.i64.wrap (v4 + (1 : Int))))
 else
 some (.dn (.ex ()))
def kh (v0 : aa) (v1 : Int) (v2 : Int) (v3 : ac) (v4 : Int) : Option (LX (Unit) (Bool)) := kx (fun st => gq v0 v1 v2 v3 st) v4
theorem zcf8 (v0 : aa) (v1 : Int) (v2 : Int) (v3 : ac) (v4 : Int) : kh v0 v1 v2 v3 v4 = gq v0 v1 v2 v3 v4 >>= LS.go (fun st => kh v0 v1 v2 v3 st) := bu (fun st => gq v0 v1 v2 v3 st) v4
def ui (v0 : aa) (v1 : Int) (v2 : Int) (v3 : ac) (v4 : Int) (r : LX (Unit) (Bool)) : Prop := ∀ (τ : TH) (o0 : Nat) (o1 : Nat) (hl : τ.lock ≤ τ.next) (ha0 : τ.at o0 = some ⟨am,[.str v0.ID,.sl (List.map ag.tv v0.Parties),.sl (List.map ac.tv v0.Arcs),.sl (List.map (TV.int .i64) v0.Leaders),.sl (List.map TV.str v0.Locks),.int .i64 v0.Start,.int .i64 v0.Delta]⟩) (hi0 : o0 < τ.next) (ha1 : τ.at o1 = some ⟨ju,[.int .i64 v3.From,.int .i64 v3.To,.int .i64 v3.Ledger,.str v3.Asset,.int .i64 v3.Amount]⟩) (hi1 : o1 < τ.next) (Q : TEx → au) (hQ0 : ∀ v : Unit,r = (.ex v) → ∀ (fr : TF) (tk2 : TK) (τ2 : TH),lkp fr 1 = .ptr o0 0 → lkp fr 3 = .int .i64 v1 → lkp fr 4 = .int .i64 v2 → tk2.take 0 = [] → τ2.cut τ.next = τ → Q (.exit 2) fr tk2 τ2) (hQ1 : ∀ v : Bool,r = (.rt v) → ∀ (tk2 : TK) (τ2 : TH),τ2.cut τ.next = τ → Q .ret [(2,.bool v)] tk2 τ2) ,tW G (.loop [1,3,4,5,6] zm) Q [(1,.ptr o0 0),(3,.int .i64 v1),(4,.int .i64 v2),(5,.ptr o1 0),(6,.int .i64 v4)] [] τ
theorem zdfz (v0 : aa) (v1 : Int) (v2 : Int) (v3 : ac) (v4 : Int) (r : LX (Unit) (Bool)) (h : kh v0 v1 v2 v3 v4 = some r) : ui v0 v1 v2 v3 v4 r := by
 refine bf (f := fun st => gq v0 v1 v2 v3 st) (P := fun st r => ∀ (v4 : Int),v4 = st → ui v0 v1 v2 v3 v4 r) ?_ h v4 rfl
 clear h r v4
 intro st o h r ih v4 hst τ o0 o1 hl ha0 hi0 ha1 hi1 Q hQ0 hQ1
 subst hst
 have h : gq v0 v1 v2 v3 v4 = some o := h
 unfold gq at h
 refine jo fun LQ hn hr he => ?_
 by_cases c1 : v4 < v2
 · rw [if_pos c1] at h
   obtain ⟨y2,hy2,h⟩ := ob h
   have f3 := aw hy2
   have f3a := (f3.2.2 ac.tv).1
   have f3b := (f3.2.2 ac.tv).2
   try simp only [CL] at f3 f3a f3b
   by_cases c4 : y2.From = v3.From
   · rw [if_pos c4] at h
     by_cases c5 : y2.To = v3.To
     · rw [if_pos c5] at h
       injection h with h; subst h
       obtain rfl : _ = r := ih
       simp only [zm,ey,TT,Ic.t,ci,reduceEqDiff,reduceAdd,ha0,hi0,ha1,hi1,he,hr,c1,f3.1,f3.2.1,f3a,eq_true c4,eq_true c5]
       exact hQ1 false rfl _ _ (by simp only [TT])
     rw [if_neg c5] at h
     injection h with h; subst h
     have ih := ih (IntKind.i64.wrap (v4 + (1 : Int))) rfl
     unfold ui at ih
     simp only [zm,ey,TT,Ic.t,ci,reduceEqDiff,reduceAdd,reduceCtorEq,ha0,hi0,ha1,hi1,c1,f3.1,f3.2.1,f3a,eq_true c4,c5]
     rw [hn]
     simp only [TT,reduceEqDiff,hi0,hi1]
     exact ih τ o0 o1 (by assumption) (by simp only [ha0]) (by assumption) (by simp only [ha1]) (by assumption) Q hQ0 hQ1
   rw [if_neg c4] at h
   injection h with h; subst h
   have ih := ih (IntKind.i64.wrap (v4 + (1 : Int))) rfl
   unfold ui at ih
   simp only [zm,ey,TT,Ic.t,ci,reduceEqDiff,reduceAdd,reduceCtorEq,ha0,hi0,ha1,hi1,c1,f3.1,f3.2.1,f3a,c4]
   rw [hn]
   simp only [TT,reduceEqDiff,hi0,hi1]
   exact ih τ o0 o1 (by assumption) (by simp only [ha0]) (by assumption) (by simp only [ha1]) (by assumption) Q hQ0 hQ1
 rw [if_neg c1] at h
 injection h with h; subst h
 obtain rfl : _ = r := ih
 simp only [zm,ey,TT,Ic.t,ci,reduceEqDiff,reduceCtorEq,ha0,he,c1]
 exact hQ0 () rfl _ _ _ (by rfl) (by rfl) (by rfl) (by rfl) (by simp only [TT])
end
end Go.Proofs.Ytdcfoaafkppojaa
