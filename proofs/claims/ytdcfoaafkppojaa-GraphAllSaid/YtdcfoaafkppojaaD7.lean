import Derived.Test.YtdcfoaafkppojaaD6
set_option linter.unusedVariables false
set_option linter.unusedSimpArgs false
set_option linter.unusedSectionVars false
open Nat (reduceEqDiff reduceAdd reduceMul reduceLT reduceLeDiff reduceSub)
open Int (reduceToNat reduceNe reduceEq reduceNeg reduceLE)
namespace Go.Proofs.Ytdcfoaafkppojaa
open Go Go.RowKit Sh Ic
noncomputable section
def gr (v0 : aa) (v1 : Int) (v2 : Int) : Option (LS (Int) (LX (Unit) (Bool))) :=
 if v2 < ((v0.Arcs.length : Nat) : Int) then
  ixL v0.Arcs v2 >>= fun y2 =>
  if y2.From < (0 : Int) then
   some (.dn (.rt false))
  else
  if v1 ≤ y2.From then
   some (.dn (.rt false))
  else
  if y2.To < (0 : Int) then
   some (.dn (.rt false))
  else
  if v1 ≤ y2.To then
   some (.dn (.rt false))
  else
  if y2.From = y2.To then
   some (.dn (.rt false))
  else
  if y2.Ledger < (0 : Int) then
   some (.dn (.rt false))
  else
  if (4 : Int) ≤ y2.Ledger then
   some (.dn (.rt false))
  else
  zt y2.Asset >>= fun y11 =>
  if y11 = true then
   if y2.Amount < (1 : Int) then
    some (.dn (.rt false))
   else
   if (1125899906842624 : Int) < y2.Amount then
    some (.dn (.rt false))
   else
   kh v0 v1 v2 (⟨y2.From,y2.To,y2.Ledger,y2.Asset,y2.Amount⟩ : ac) (0 : Int) >>= fun y16 =>
   match y16 with
   | .ex w17 =>
    some (.nx (IntKind.i64.wrap (v2 + (1 : Int))))
   | .rt w19 =>
    some (.dn (.rt w19))
  else
  some (.dn (.rt false))
 else
 some (.dn (.ex ()))
def ki (v0 : aa) (v1 : Int) (v2 : Int) : Option (LX (Unit) (Bool)) := kx (fun st => gr v0 v1 st) v2
theorem zcf7 (v0 : aa) (v1 : Int) (v2 : Int) : ki v0 v1 v2 = gr v0 v1 v2 >>= LS.go (fun st => ki v0 v1 st) := bu (fun st => gr v0 v1 st) v2
def zcbb (v0 : aa) (v1 : Int) (v2 : Int) (r : LX (Unit) (Bool)) : Prop := ∀ (τ : TH) (o0 : Nat) (hl : τ.lock ≤ τ.next) (ha0 : τ.at o0 = some ⟨am,[.str v0.ID,.sl (List.map ag.tv v0.Parties),.sl (List.map ac.tv v0.Arcs),.sl (List.map (TV.int .i64) v0.Leaders),.sl (List.map TV.str v0.Locks),.int .i64 v0.Start,.int .i64 v0.Delta]⟩) (hi0 : o0 < τ.next) (Q : TEx → au) (hQ0 : ∀ v : Unit,r = (.ex v) → ∀ (fr : TF) (tk2 : TK) (τ2 : TH),lkp fr 1 = .ptr o0 0 → tk2.take 0 = [] → τ2.cut τ.next = τ → Q (.exit 0) fr tk2 τ2) (hQ1 : ∀ v : Bool,r = (.rt v) → ∀ (tk2 : TK) (τ2 : TH),τ2.cut τ.next = τ → Q .ret [(2,.bool v)] tk2 τ2) ,tW G (.loop [1,3,4] gc) Q [(1,.ptr o0 0),(3,.int .i64 v1),(4,.int .i64 v2)] [] τ
theorem zdfy (v0 : aa) (v1 : Int) (v2 : Int) (r : LX (Unit) (Bool)) (h : ki v0 v1 v2 = some r) : zcbb v0 v1 v2 r := by
 refine bf (f := fun st => gr v0 v1 st) (P := fun st r => ∀ (v2 : Int),v2 = st → zcbb v0 v1 v2 r) ?_ h v2 rfl
 clear h r v2
 intro st o h r ih v2 hst τ o0 hl ha0 hi0 Q hQ0 hQ1
 subst hst
 have h : gr v0 v1 v2 = some o := h
 unfold gr at h
 refine jo fun LQ hn hr he => ?_
 by_cases c1 : v2 < ((v0.Arcs.length : Nat) : Int)
 · rw [if_pos c1] at h
   obtain ⟨y2,hy2,h⟩ := ob h
   have f3 := aw hy2
   have f3a := (f3.2.2 ac.tv).1
   have f3b := (f3.2.2 ac.tv).2
   try simp only [CL] at f3 f3a f3b
   by_cases c4 : y2.From < (0 : Int)
   · rw [if_pos c4] at h
     injection h with h; subst h
     obtain rfl : _ = r := ih
     simp only [gc,ey,TT,Ic.t,ci,reduceEqDiff,reduceAdd,reduceCtorEq,hl,ha0,he,hr,c1,f3.1,f3a,c4]
     exact hQ1 false rfl _ _ (by simp only [TT])
   rw [if_neg c4] at h
   by_cases c5 : v1 ≤ y2.From
   · rw [if_pos c5] at h
     injection h with h; subst h
     obtain rfl : _ = r := ih
     simp only [gc,ey,TT,Ic.t,ci,reduceEqDiff,reduceAdd,reduceCtorEq,hl,ha0,he,hr,c1,f3.1,f3a,c4,c5]
     exact hQ1 false rfl _ _ (by simp only [TT])
   rw [if_neg c5] at h
   by_cases c6 : y2.To < (0 : Int)
   · rw [if_pos c6] at h
     injection h with h; subst h
     obtain rfl : _ = r := ih
     simp only [gc,ey,TT,Ic.t,ci,reduceEqDiff,reduceAdd,reduceCtorEq,hl,ha0,he,hr,c1,f3.1,f3a,c4,c5,c6]
     exact hQ1 false rfl _ _ (by simp only [TT])
   rw [if_neg c6] at h
   by_cases c7 : v1 ≤ y2.To
   · rw [if_pos c7] at h
     injection h with h; subst h
     obtain rfl : _ = r := ih
     simp only [gc,ey,TT,Ic.t,ci,reduceEqDiff,reduceAdd,reduceCtorEq,hl,ha0,he,hr,c1,f3.1,f3a,c4,c5,c6,c7]
     exact hQ1 false rfl _ _ (by simp only [TT])
   rw [if_neg c7] at h
   by_cases c8 : y2.From = y2.To
   · rw [if_pos c8] at h
     injection h with h; subst h
     obtain rfl : _ = r := ih
     simp only [gc,ey,TT,Ic.t,ci,reduceEqDiff,reduceAdd,reduceCtorEq,hl,ha0,he,hr,c1,f3.1,f3a,c4,c5,c6,c7,eq_true c8]
     exact hQ1 false rfl _ _ (by simp only [TT])
   rw [if_neg c8] at h
   by_cases c9 : y2.Ledger < (0 : Int)
   · rw [if_pos c9] at h
     injection h with h; subst h
     obtain rfl : _ = r := ih
     simp only [gc,ey,TT,Ic.t,ci,reduceEqDiff,reduceAdd,reduceCtorEq,hl,ha0,he,hr,c1,f3.1,f3a,c4,c5,c6,c7,c8,c9]
     exact hQ1 false rfl _ _ (by simp only [TT])
   rw [if_neg c9] at h
   by_cases c10 : (4 : Int) ≤ y2.Ledger
   · rw [if_pos c10] at h
     injection h with h; subst h
     obtain rfl : _ = r := ih
     simp only [gc,ey,TT,Ic.t,ci,reduceEqDiff,reduceAdd,reduceCtorEq,hl,ha0,he,hr,c1,f3.1,f3a,c4,c5,c6,c7,c8,c9,c10]
     exact hQ1 false rfl _ _ (by simp only [TT])
   rw [if_neg c10] at h
   obtain ⟨y11,hy11,h⟩ := ob h
   have k12 := zcdv y2.Asset _ hy11
   try simp only [CL,MC,reduceToNat] at k12
   by_cases c13 : y11 = true
   · rw [if_pos c13] at h
     by_cases c14 : y2.Amount < (1 : Int)
     · rw [if_pos c14] at h
       injection h with h; subst h
       obtain rfl : _ = r := ih
       simp only [gc,ey,TT,Ic.t,ci,reduceEqDiff,reduceAdd,reduceCtorEq,hl,ha0,he,hr,c1,f3.1,f3a,c4,c5,c6,c7,c8,c9,c10,k12,c13,c14]
       exact hQ1 false rfl _ _ (by simp only [TT])
     rw [if_neg c14] at h
     by_cases c15 : (1125899906842624 : Int) < y2.Amount
     · rw [if_pos c15] at h
       injection h with h; subst h
       obtain rfl : _ = r := ih
       simp only [gc,ey,TT,Ic.t,ci,reduceEqDiff,reduceAdd,reduceCtorEq,hl,ha0,he,hr,c1,f3.1,f3a,c4,c5,c6,c7,c8,c9,c10,k12,c13,c14,c15]
       exact hQ1 false rfl _ _ (by simp only [TT])
     rw [if_neg c15] at h
     obtain ⟨y16,hy16,h⟩ := ob h
     simp only [gc,ey,TT,Ic.t,ci,reduceEqDiff,reduceAdd,reduceCtorEq,hl,ha0,c1,f3.1,f3a,c4,c5,c6,c7,c8,c9,c10,k12,c13,c14,c15]
     have Sy16 := zdfz v0 v1 v2 (⟨y2.From,y2.To,y2.Ledger,y2.Asset,y2.Amount⟩ : ac) (0 : Int) y16 hy16
     unfold ui at Sy16
     refine Sy16 _ o0 τ.next (by simp only [aj,ap]; omega) (by simp only [TT,ha0,hi0]) (by simp only [aj]; omega) (by simp only [TT]) (by simp only [aj]; omega) _ ?_ ?_
     · intro w17 e frq18 tkq18 τq18 g1q18 g3q18 g4q18 htq18 hcq18
       subst e
       simp only at h
       have hcq18 := az (n := τ.next + 1) hcq18 (by simp only [aj]; omega)
       try simp only [List.take_zero] at htq18
       try simp only [TT] at hcq18
       injection h with h; subst h
       have ih := ih (IntKind.i64.wrap (v2 + (1 : Int))) rfl
       unfold zcbb at ih
       simp only [TT,reduceEqDiff,hi0,g1q18,g3q18,g4q18,hcq18]
       rw [hn]
       simp only [TT,reduceEqDiff,hi0]
       exact ih τ o0 (by assumption) (by simp only [ha0]) (by assumption) Q hQ0 hQ1
     intro w19 e tkq20 τq20 hcq20
     subst e
     simp only at h
     have hcq20 := az (n := τ.next) hcq20 (by simp only [aj]; omega)
     try simp only [TT] at hcq20
     injection h with h; subst h
     obtain rfl : _ = r := ih
     simp only [TT,hr]
     exact hQ1 w19 rfl _ _ (by simp only [hcq20])
   rw [if_neg c13] at h
   have c13 := Bool.eq_false_iff.2 c13
   injection h with h; subst h
   obtain rfl : _ = r := ih
   simp only [gc,ey,TT,Ic.t,ci,reduceEqDiff,reduceAdd,reduceCtorEq,hl,ha0,he,hr,c1,f3.1,f3a,c4,c5,c6,c7,c8,c9,c10,k12,c13]
   exact hQ1 false rfl _ _ (by simp only [TT])
 rw [if_neg c1] at h
 injection h with h; subst h
 obtain rfl : _ = r := ih
 simp only [gc,ey,TT,Ic.t,ci,reduceEqDiff,reduceAdd,reduceCtorEq,hl,ha0,he,c1]
 exact hQ0 () rfl _ _ _ (by rfl) (by rfl) (by simp only [TT])
def zb2c (p1 : aa) : Option Bool :=
 ki p1 ((p1.Parties.length : Nat) : Int) (0 : Int) >>= fun y1 =>
 match y1 with
 | .ex w2 =>
  if (1 : Int) ≤ ((p1.Arcs.length : Nat) : Int) then
   some (decide (((p1.Arcs.length : Nat) : Int) ≤ (12 : Int)))
  else
  some false
 | .rt w4 =>
  some w4
theorem zcp9 (p1 : aa) (r : Bool) (h : zb2c p1 = some r) (τ : TH) (hl : τ.lock ≤ τ.next) : Ru G zb45 [.agg [.str p1.ID,.sl (List.map ag.tv p1.Parties),.sl (List.map ac.tv p1.Arcs),.sl (List.map (TV.int .i64) p1.Leaders),.sl (List.map TV.str p1.Locks),.int .i64 p1.Start,.int .i64 p1.Delta]] τ (.bool r) τ := by
 refine jv fun K hK => ?_
 rw [bh zbnx (Nat.le_of_ble_eq_true rfl)]
 unfold zb2c at h
 obtain ⟨y1,hy1,h⟩ := ob h
 simp only [ey,TT,Ic.t,ci,reduceEqDiff]
 have Sy1 := zdfy p1 ((p1.Parties.length : Nat) : Int) (0 : Int) y1 hy1
 unfold zcbb at Sy1
 refine Sy1 _ τ.next (by simp only [aj,ap]; omega) (by simp only [TT]) (by simp only [aj]; omega) _ ?_ ?_
 · intro w2 e frq3 tkq3 τq3 g1q3 htq3 hcq3
   subst e
   simp only at h
   have hcq3 := az (n := τ.next + 1) hcq3 (by simp only [aj]; omega)
   try simp only [List.take_zero] at htq3
   try simp only [TT] at hcq3
   by_cases c6 : (1 : Int) ≤ ((p1.Arcs.length : Nat) : Int)
   · rw [if_pos c6] at h
     injection h with h; subst h
     simp only [TT,reduceEqDiff,reduceLT,g1q3,hcq3,c6]
     exact hK
   rw [if_neg c6] at h
   injection h with h; subst h
   simp only [TT,reduceEqDiff,reduceLT,g1q3,hcq3,c6]
   exact hK
 intro w4 e tkq5 τq5 hcq5
 subst e
 simp only at h
 have hcq5 := az (n := τ.next) hcq5 (by simp only [aj]; omega)
 try simp only [TT] at hcq5
 injection h with h; subst h
 simp only [TT,hcq5]
 exact hK
theorem zda2 (p1 : aa) (r : Bool) (h : zb2c p1 = some r) (lk : Bool) (d : Option Nat) (K : au) (fr : TF) (tk : TK) (τ : TH) (hl : τ.lock ≤ τ.next) : eo G lk zb45 [.agg [.str p1.ID,.sl (List.map ag.tv p1.Parties),.sl (List.map ac.tv p1.Arcs),.sl (List.map (TV.int .i64) p1.Leaders),.sl (List.map TV.str p1.Locks),.int .i64 p1.Start,.int .i64 p1.Delta]] d K fr tk τ = K (fv fr d (.bool r)) tk τ :=
 av (zcp9 p1 r h τ hl) (zcp9 p1 r h (τ.locked τ.next) (Nat.le_refl _) ) (by simp only [TT])
def pn (p1 : aa) : Option Bool :=
 zt p1.ID >>= fun y1 =>
 if y1 = true then
  qt p1 >>= fun y4 =>
  if y4 = true then
   qr p1 >>= fun y7 =>
   if y7 = true then
    zb2c p1 >>= fun y10 =>
    if y10 = true then
     if (0 : Int) ≤ p1.Start then
      if p1.Start ≤ (1099511627776 : Int) then
       if (1 : Int) ≤ p1.Delta then
        some (decide (p1.Delta ≤ (1048576 : Int)))
       else
       some false
      else
      some false
     else
     some false
    else
    some false
   else
   some false
  else
  some false
 else
 some false
theorem zcsa (p1 : aa) (r : Bool) (h : pn p1 = some r) (τ : TH) (hl : τ.lock ≤ τ.next) : Ru G pt [.agg [.str p1.ID,.sl (List.map ag.tv p1.Parties),.sl (List.map ac.tv p1.Arcs),.sl (List.map (TV.int .i64) p1.Leaders),.sl (List.map TV.str p1.Locks),.int .i64 p1.Start,.int .i64 p1.Delta]] τ (.bool r) τ := by
 refine jv fun K hK => ?_
 rw [bh zdad (Nat.le_of_ble_eq_true rfl)]
 unfold pn at h
 obtain ⟨y1,hy1,h⟩ := ob h
 have k2 := zcdv p1.ID _ hy1
 try simp only [CL,MC,reduceToNat] at k2
 by_cases c3 : y1 = true
 · rw [if_pos c3] at h
   obtain ⟨y4,hy4,h⟩ := ob h
   have k5 := zdf0 p1 _ hy4
   try simp only [CL,MC,reduceToNat] at k5
   by_cases c6 : y4 = true
   · rw [if_pos c6] at h
     obtain ⟨y7,hy7,h⟩ := ob h
     have k8 := zdf1 p1 _ hy7
     try simp only [CL,MC,reduceToNat] at k8
     by_cases c9 : y7 = true
     · rw [if_pos c9] at h
       obtain ⟨y10,hy10,h⟩ := ob h
       have k11 := zda2 p1 _ hy10
       try simp only [CL,MC,reduceToNat] at k11
       by_cases c12 : y10 = true
       · rw [if_pos c12] at h
         by_cases c13 : (0 : Int) ≤ p1.Start
         · rw [if_pos c13] at h
           by_cases c14 : p1.Start ≤ (1099511627776 : Int)
           · rw [if_pos c14] at h
             by_cases c15 : (1 : Int) ≤ p1.Delta
             · rw [if_pos c15] at h
               injection h with h; subst h
               simp only [ud,TT,Ic.t,ci,reduceEqDiff,reduceAdd,reduceCtorEq,hl,k2,c3,k5,c6,k8,c9,k11,c12,c13,c14,c15]
               first | exact hK | (simp only [hl,k2,c3,k5,c6,k8,c9,k11,c12,c13,c14,c15,CL] at hK; exact hK)
             rw [if_neg c15] at h
             injection h with h; subst h
             simp only [ud,TT,Ic.t,ci,reduceEqDiff,reduceAdd,reduceCtorEq,hl,k2,c3,k5,c6,k8,c9,k11,c12,c13,c14,c15]
             first | exact hK | (simp only [hl,k2,c3,k5,c6,k8,c9,k11,c12,c13,c14,c15,CL] at hK; exact hK)
           rw [if_neg c14] at h
           injection h with h; subst h
           simp only [ud,TT,Ic.t,ci,reduceEqDiff,reduceAdd,reduceCtorEq,hl,k2,c3,k5,c6,k8,c9,k11,c12,c13,c14]
           first | exact hK | (simp only [hl,k2,c3,k5,c6,k8,c9,k11,c12,c13,c14,CL] at hK; exact hK)
         rw [if_neg c13] at h
         injection h with h; subst h
         simp only [ud,TT,Ic.t,ci,reduceEqDiff,reduceAdd,reduceCtorEq,hl,k2,c3,k5,c6,k8,c9,k11,c12,c13]
         first | exact hK | (simp only [hl,k2,c3,k5,c6,k8,c9,k11,c12,c13,CL] at hK; exact hK)
       rw [if_neg c12] at h
       have c12 := Bool.eq_false_iff.2 c12
       injection h with h; subst h
       simp only [ud,TT,Ic.t,ci,reduceEqDiff,reduceAdd,reduceCtorEq,hl,k2,c3,k5,c6,k8,c9,k11,c12]
       first | exact hK | (simp only [hl,k2,c3,k5,c6,k8,c9,k11,c12,CL] at hK; exact hK)
     rw [if_neg c9] at h
     have c9 := Bool.eq_false_iff.2 c9
     injection h with h; subst h
     simp only [ud,TT,Ic.t,ci,reduceEqDiff,reduceAdd,reduceCtorEq,hl,k2,c3,k5,c6,k8,c9]
     first | exact hK | (simp only [hl,k2,c3,k5,c6,k8,c9,CL] at hK; exact hK)
   rw [if_neg c6] at h
   have c6 := Bool.eq_false_iff.2 c6
   injection h with h; subst h
   simp only [ud,TT,Ic.t,ci,reduceEqDiff,reduceAdd,reduceCtorEq,hl,k2,c3,k5,c6]
   first | exact hK | (simp only [hl,k2,c3,k5,c6,CL] at hK; exact hK)
 rw [if_neg c3] at h
 have c3 := Bool.eq_false_iff.2 c3
 injection h with h; subst h
 simp only [ud,TT,Ic.t,ci,reduceEqDiff,hl,k2,c3]
 first | exact hK | (simp only [hl,k2,c3,CL] at hK; exact hK)
theorem zb64 (p1 : aa) (r : Bool) (h : pn p1 = some r) (lk : Bool) (d : Option Nat) (K : au) (fr : TF) (tk : TK) (τ : TH) (hl : τ.lock ≤ τ.next) : eo G lk pt [.agg [.str p1.ID,.sl (List.map ag.tv p1.Parties),.sl (List.map ac.tv p1.Arcs),.sl (List.map (TV.int .i64) p1.Leaders),.sl (List.map TV.str p1.Locks),.int .i64 p1.Start,.int .i64 p1.Delta]] d K fr tk τ = K (fv fr d (.bool r)) tk τ :=
 av (zcsa p1 r h τ hl) (zcsa p1 r h (τ.locked τ.next) (Nat.le_refl _) ) (by simp only [TT])
def g7 (v0 : Int) (v1 : Int) (v2 : (List Int)) (v3 : aa) (v4 : (List Bool)) (v5 : Int) : Option (LS ((List Bool) × Int) ((List Bool))) :=
 if v5 < ((v2.length : Nat) : Int) then
  ixL v2 v5 >>= fun y2 =>
  if 0 ≤ y2 ∧ y2 < ((6 : Nat) : Int) then
   if y2.toNat + 1 ≤ v4.length then
    some (.nx ((v4.set y2.toNat true),(IntKind.i64.wrap (v5 + (1 : Int)))))
   else
    none
  else
   none
 else
 some (.dn v4)
def rz (v0 : Int) (v1 : Int) (v2 : (List Int)) (v3 : aa) (v4 : (List Bool)) (v5 : Int) : Option ((List Bool)) := kx (fun st => g7 v0 v1 v2 v3 st.1 st.2) (v4,v5)
theorem zc2u (v0 : Int) (v1 : Int) (v2 : (List Int)) (v3 : aa) (v4 : (List Bool)) (v5 : Int) : rz v0 v1 v2 v3 v4 v5 = g7 v0 v1 v2 v3 v4 v5 >>= LS.go (fun st => rz v0 v1 v2 v3 st.1 st.2) := bu (fun st => g7 v0 v1 v2 v3 st.1 st.2) (v4,v5)
def xu (v0 : Int) (v1 : Int) (v2 : (List Int)) (v3 : aa) (v4 : (List Bool)) (v5 : Int) (r : (List Bool)) : Prop := ∀ (τ : TH) (o0 : Nat) (o1 : Nat) (hl : τ.lock ≤ τ.next) (ha0 : τ.at o0 = some ⟨am,[.str v3.ID,.sl (List.map ag.tv v3.Parties),.sl (List.map ac.tv v3.Arcs),.sl (List.map (TV.int .i64) v3.Leaders),.sl (List.map TV.str v3.Locks),.int .i64 v3.Start,.int .i64 v3.Delta]⟩) (hi0 : o0 < τ.next) (ha1 : τ.at o1 = some ⟨qo,List.map TV.bool v4⟩) (hi1 : o1 < τ.next) (hw1 : τ.lock ≤ o1) (hn0_1 : o0 ≠ o1) (Q : TEx → au) (hQ0 : ∀ (fr : TF) (tk2 : TK) (τ2 : TH),lkp fr 1 = .int .i64 v0 → lkp fr 2 = .int .i64 v1 → lkp fr 4 = .ptr o0 0 → lkp fr 9 = .ptr o1 0 → tk2.take 0 = [] → τ2.cut τ.next = (τ.put o1 ⟨qo,List.map TV.bool r⟩) → Q (.exit 0) fr tk2 τ2) ,tW G (.loop [1,2,3,4,9,10] zca7) Q [(1,.int .i64 v0),(2,.int .i64 v1),(3,.sl (List.map (TV.int .i64) v2)),(4,.ptr o0 0),(9,.ptr o1 0),(10,.int .i64 v5)] [] τ
theorem zdgr (v0 : Int) (v1 : Int) (v2 : (List Int)) (v3 : aa) (v4 : (List Bool)) (v5 : Int) (r : (List Bool)) (h : rz v0 v1 v2 v3 v4 v5 = some r) : xu v0 v1 v2 v3 v4 v5 r := by
 refine bf (f := fun st => g7 v0 v1 v2 v3 st.1 st.2) (P := fun st r => ∀ (v4 : (List Bool)) (v5 : Int),(v4,v5) = st → xu v0 v1 v2 v3 v4 v5 r) ?_ h v4 v5 rfl
 clear h r v5 v4
 intro st o h r ih v4 v5 hst τ o0 o1 hl ha0 hi0 ha1 hi1 hw1 hn0_1 Q hQ0
 subst hst
 have h : g7 v0 v1 v2 v3 v4 v5 = some o := h
 unfold g7 at h
 refine jo fun LQ hn hr he => ?_
 by_cases c1 : v5 < ((v2.length : Nat) : Int)
 · rw [if_pos c1] at h
   obtain ⟨y2,hy2,h⟩ := ob h
   have f3 := aw hy2
   have f3a := (f3.2.2 (TV.int .i64)).1
   have f3b := (f3.2.2 (TV.int .i64)).2
   try simp only [CL,MC,reduceToNat] at f3 f3a f3b
   obtain ⟨c4,h⟩ := ifS h
   obtain ⟨c5,h⟩ := ifS h
   have f6 : (List.map TV.bool v4).set y2.toNat (.bool true) = List.map TV.bool (v4.set y2.toNat true) := zb23 (enc := TV.bool) _ _ _
   injection h with h; subst h
   have ih := ih (v4.set y2.toNat true) (IntKind.i64.wrap (v5 + (1 : Int))) rfl
   unfold xu at ih
   simp only [zca7,gg,TT,Ic.t,ci,reduceEqDiff,reduceCtorEq,hi0,ha1,hi1,hw1,c1,f3.1,f3a,c4,c5,f6]
   rw [hn]
   simp only [TT,reduceEqDiff,hi0,hi1]
   exact ih (τ.put o1 ⟨qo,List.map TV.bool (v4.set y2.toNat true)⟩) o0 o1 (by simp only [af,ah]; assumption) (by simp only [TT,ha0,nq hn0_1]) (by simp only [af]; assumption) (by simp only [TT,hi1]) (by simp only [af]; assumption) (by assumption) hn0_1 Q (fun fr tk2 τ2 g0 g1 g2 g3 ht hτ => hQ0 fr tk2 τ2 g0 g1 g2 g3 ht (by simpa only [af,zbol,hl,ha0,hi0,ha1,hi1,hw1,nq hn0_1] using hτ))
 rw [if_neg c1] at h
 injection h with h; subst h
 obtain rfl : _ = r := ih
 simp only [zca7,gg,TT,Ic.t,ci,reduceEqDiff,reduceCtorEq,he,c1]
 exact hQ0 _ _ _ (by rfl) (by rfl) (by rfl) (by rfl) (by rfl) (by simp only [TT,ux ha1])
def gx (v0 : Int) (v1 : aa) (v2 : (List Bool)) (v5 : Int) (v3 : (List Bool)) (v4 : (List Int)) (v6 : Int) : Option (LS ((List Bool) × (List Int) × Int) (LX ((List Int) × (List Bool)) (Bool × (List Bool)))) :=
 if v6 < ((v1.Arcs.length : Nat) : Int) then
  ixL v1.Arcs v6 >>= fun y2 =>
  ixL v4 v5 >>= fun y4 =>
  if y2.From = y4 then
   if 0 ≤ y2.To ∧ y2.To < ((6 : Nat) : Int) then
    ixL v2 y2.To >>= fun y8 =>
    if y8 = true then
     some (.nx (v3,v4,(IntKind.i64.wrap (v6 + (1 : Int)))))
    else
    if y2.To = v0 then
     some (.dn (.rt (true,v3)))
    else
    ixL v3 y2.To >>= fun y12 =>
    if y12 = true then
     some (.nx (v3,v4,(IntKind.i64.wrap (v6 + (1 : Int)))))
    else
    if y2.To.toNat + 1 ≤ v3.length then
     if (v4.length + 1) * 8 ≤ 140737488355328 then
      some (.nx ((v3.set y2.To.toNat true),(v4 ++ [y2.To]),(IntKind.i64.wrap (v6 + (1 : Int)))))
     else
      none
    else
     none
   else
    none
  else
  some (.nx (v3,v4,(IntKind.i64.wrap (v6 + (1 : Int)))))
 else
 some (.dn (.ex (v4,v3)))
def pi (v0 : Int) (v1 : aa) (v2 : (List Bool)) (v5 : Int) (v3 : (List Bool)) (v4 : (List Int)) (v6 : Int) : Option (LX ((List Int) × (List Bool)) (Bool × (List Bool))) := kx (fun st => gx v0 v1 v2 v5 st.1 st.2.1 st.2.2) (v3,v4,v6)
theorem zc2w (v0 : Int) (v1 : aa) (v2 : (List Bool)) (v5 : Int) (v3 : (List Bool)) (v4 : (List Int)) (v6 : Int) : pi v0 v1 v2 v5 v3 v4 v6 = gx v0 v1 v2 v5 v3 v4 v6 >>= LS.go (fun st => pi v0 v1 v2 v5 st.1 st.2.1 st.2.2) := bu (fun st => gx v0 v1 v2 v5 st.1 st.2.1 st.2.2) (v3,v4,v6)
def mh (v0 : Int) (v1 : aa) (v2 : (List Bool)) (v5 : Int) (v3 : (List Bool)) (v4 : (List Int)) (v6 : Int) (r : LX ((List Int) × (List Bool)) (Bool × (List Bool))) : Prop := ∀ (τ : TH) (o0 : Nat) (o1 : Nat) (o2 : Nat) (n0 : Nat) (ty0 : TypeId) (hnn0 : n0 = v4.length) (hty0 : n0 = 0 ∨ ty0 = cy) (hl : τ.lock ≤ τ.next) (ha0 : τ.at o0 = some ⟨am,[.str v1.ID,.sl (List.map ag.tv v1.Parties),.sl (List.map ac.tv v1.Arcs),.sl (List.map (TV.int .i64) v1.Leaders),.sl (List.map TV.str v1.Locks),.int .i64 v1.Start,.int .i64 v1.Delta]⟩) (hi0 : o0 < τ.next) (ha1 : τ.at o1 = some ⟨qo,List.map TV.bool v2⟩) (hi1 : o1 < τ.next) (ha2 : τ.at o2 = some ⟨qo,List.map TV.bool v3⟩) (hi2 : o2 < τ.next) (hw2 : τ.lock ≤ o2) (hn0_2 : o0 ≠ o2) (hn1_2 : o1 ≠ o2) (Q : TEx → au) (hQ0 : ∀ v : ((List Int) × (List Bool)),r = (.ex v) → ∀ (fr : TF) (tk2 : TK) (τ2 : TH),∀ (u0 : TypeId),(v.1.length = 0 ∨ u0 = cy) → lkp fr 2 = .int .i64 v0 → lkp fr 4 = .ptr o0 0 → lkp fr 9 = .ptr o1 0 → lkp fr 11 = .ptr o2 0 → lkp fr 12 = .sla 0 (List.map (TV.int .i64) v.1) → lkp fr 13 = .int .i64 v5 → tk2.take 1 = [some (v.1.length,u0)] → τ2.cut τ.next = (τ.put o2 ⟨qo,List.map TV.bool v.2⟩) → Q (.exit 4) fr tk2 τ2) (hQ1 : ∀ v : (Bool × (List Bool)),r = (.rt v) → ∀ (tk2 : TK) (τ2 : TH),τ2.cut τ.next = (τ.put o2 ⟨qo,List.map TV.bool v.2⟩) → Q .ret [(8,.bool v.1)] tk2 τ2) ,tW G (.loop [2,4,9,11,12,13,14] ot) Q [(2,.int .i64 v0),(4,.ptr o0 0),(9,.ptr o1 0),(11,.ptr o2 0),(12,.sla 0 (List.map (TV.int .i64) v4)),(13,.int .i64 v5),(14,.int .i64 v6)] [some (n0,ty0)] τ
theorem zdgt (v0 : Int) (v1 : aa) (v2 : (List Bool)) (v5 : Int) (v3 : (List Bool)) (v4 : (List Int)) (v6 : Int) (r : LX ((List Int) × (List Bool)) (Bool × (List Bool))) (h : pi v0 v1 v2 v5 v3 v4 v6 = some r) : mh v0 v1 v2 v5 v3 v4 v6 r := by
 refine bf (f := fun st => gx v0 v1 v2 v5 st.1 st.2.1 st.2.2) (P := fun st r => ∀ (v3 : (List Bool)) (v4 : (List Int)) (v6 : Int),(v3,v4,v6) = st → mh v0 v1 v2 v5 v3 v4 v6 r) ?_ h v3 v4 v6 rfl
 clear h r v6 v4 v3
 intro st o h r ih v3 v4 v6 hst τ o0 o1 o2 n0 ty0 hnn0 hty0 hl ha0 hi0 ha1 hi1 ha2 hi2 hw2 hn0_2 hn1_2 Q hQ0 hQ1
 subst hst
 have h : gx v0 v1 v2 v5 v3 v4 v6 = some o := h
 unfold gx at h
 subst hnn0
 refine jo fun LQ hn hr he => ?_
 by_cases c1 : v6 < ((v1.Arcs.length : Nat) : Int)
 · rw [if_pos c1] at h
   obtain ⟨y2,hy2,h⟩ := ob h
   have f3 := aw hy2
   have f3a := (f3.2.2 ac.tv).1
   have f3b := (f3.2.2 ac.tv).2
   try simp only [CL] at f3 f3a f3b
   obtain ⟨y4,hy4,h⟩ := ob h
   have f5 := aw hy4
   have f5a := (f5.2.2 (TV.int .i64)).1
   have f5b := (f5.2.2 (TV.int .i64)).2
   try simp only [CL,MC,reduceToNat] at f5 f5a f5b
   by_cases c6 : y2.From = y4
   · rw [if_pos c6] at h
     obtain ⟨c7,h⟩ := ifS h
     obtain ⟨y8,hy8,h⟩ := ob h
     have f9 := aw hy8
     have f9a := (f9.2.2 TV.bool).1
     have f9b := (f9.2.2 TV.bool).2
     try simp only [CL,MC,reduceToNat] at f9 f9a f9b
     by_cases c10 : y8 = true
     · rw [if_pos c10] at h
       injection h with h; subst h
       have ih := ih v3 v4 (IntKind.i64.wrap (v6 + (1 : Int))) rfl
       unfold mh at ih
       simp only [ot,gg,TT,Ic.t,ci,reduceEqDiff,reduceAdd,reduceLT,reduceCtorEq,hl,ha0,hi0,ha1,hi1,ha2,hi2,c1,f3.1,f3a,f5.1,f5.2.1,f5a,eq_true c6,c7,f9b,c10]
       rw [hn]
       simp only [TT,reduceEqDiff,reduceLT,hi0,hi1,hi2]
       exact ih τ o0 o1 o2 _ ty0 (by rfl) (by exact hty0) (by assumption) (by simp only [ha0]) (by assumption) (by simp only [ha1]) (by assumption) (by simp only [ha2]) (by assumption) (by assumption) hn0_2 hn1_2 Q (fun v e fr tk2 τ2 u0 u0' g0 g1 g2 g3 g4 g5 ht hτ => hQ0 v e fr tk2 τ2 u0 u0' g0 g1 g2 g3 g4 g5 ht (by exact hτ)) (fun v e tk2 τ2 hτ => hQ1 v e tk2 τ2 (by exact hτ))
     rw [if_neg c10] at h
     have c10 := Bool.eq_false_iff.2 c10
     by_cases c11 : y2.To = v0
     · rw [if_pos c11] at h
       injection h with h; subst h
       obtain rfl : _ = r := ih
       simp only [ot,gg,TT,Ic.t,ci,reduceEqDiff,reduceAdd,reduceLT,reduceCtorEq,hl,ha0,hi0,ha1,hi1,ha2,hi2,he,hr,c1,f3.1,f3a,f5.1,f5.2.1,f5a,eq_true c6,c7,f9b,c10,eq_true c11]
       exact hQ1 (true,v3) rfl _ _ (by simp only [TT,ux ha2])
     rw [if_neg c11] at h
     obtain ⟨y12,hy12,h⟩ := ob h
     have f13 := aw hy12
     have f13a := (f13.2.2 TV.bool).1
     have f13b := (f13.2.2 TV.bool).2
     try simp only [CL,MC,reduceToNat] at f13 f13a f13b
     by_cases c14 : y12 = true
     · rw [if_pos c14] at h
       injection h with h; subst h
       have ih := ih v3 v4 (IntKind.i64.wrap (v6 + (1 : Int))) rfl
       unfold mh at ih
       simp only [ot,gg,TT,Ic.t,ci,reduceEqDiff,reduceAdd,reduceLT,reduceLeDiff,reduceCtorEq,hl,ha0,hi0,ha1,hi1,ha2,hi2,hw2,hty0,c1,f3.1,f3a,f5.1,f5.2.1,f5a,eq_true c6,c7,f9b,c10,c11,f13b,c14]
       rw [hn]
       simp only [TT,reduceEqDiff,reduceLT,hi0,hi1,hi2]
       exact ih τ o0 o1 o2 _ ty0 (by rfl) (by exact hty0) (by assumption) (by simp only [ha0]) (by assumption) (by simp only [ha1]) (by assumption) (by simp only [ha2]) (by assumption) (by assumption) hn0_2 hn1_2 Q (fun v e fr tk2 τ2 u0 u0' g0 g1 g2 g3 g4 g5 ht hτ => hQ0 v e fr tk2 τ2 u0 u0' g0 g1 g2 g3 g4 g5 ht (by exact hτ)) (fun v e tk2 τ2 hτ => hQ1 v e tk2 τ2 (by exact hτ))
     rw [if_neg c14] at h
     have c14 := Bool.eq_false_iff.2 c14
     obtain ⟨c15,h⟩ := ifS h
     have f16 : (List.map TV.bool v3).set y2.To.toNat (.bool true) = List.map TV.bool (v3.set y2.To.toNat true) := zb23 (enc := TV.bool) _ _ _
     obtain ⟨c17,h⟩ := ifS h
     have f18 : 1 ≤ maxLen := by unfold maxLen; omega
     have f19 : v4.length + 1 ≤ maxLen := by unfold maxLen; omega
     have f20 : ((List.map (TV.int .i64) v4).all fun e => e.cells.length == 1) = true := zbmt (fun _ => rfl) _
     have f21 : List.map (TV.int .i64) v4 ++ List.map (TV.int .i64) [y2.To] = List.map (TV.int .i64) (v4 ++ [y2.To]) := zbu3 _ _
     try simp only [List.map_cons,List.map_nil] at f21
     injection h with h; subst h
     have ih := ih (v3.set y2.To.toNat true) (v4 ++ [y2.To]) (IntKind.i64.wrap (v6 + (1 : Int))) rfl
     unfold mh at ih
     simp only [ot,gg,TT,Ic.t,ci,reduceEqDiff,reduceAdd,reduceLT,reduceLeDiff,reduceCtorEq,hl,ha0,hi0,ha1,hi1,ha2,hi2,hw2,hty0,c1,f3.1,f3a,f5.1,f5.2.1,f5a,eq_true c6,c7,f9b,c10,c11,f13b,c14,c15,f16,c17,f18,f19,f20,f21]
     rw [hn]
     simp only [TT,reduceEqDiff,reduceLT,hi0,hi1,hi2]
     exact ih (τ.put o2 ⟨qo,List.map TV.bool (v3.set y2.To.toNat true)⟩) o0 o1 o2 (v4.length + 1) cy (by simp []) (by exact Or.inr rfl) (by simp only [af,ah]; assumption) (by simp only [TT,ha0,nq hn0_2]) (by simp only [af]; assumption) (by simp only [TT,ha1,nq hn1_2]) (by simp only [af]; assumption) (by simp only [TT,hi2]) (by simp only [af]; assumption) (by assumption) hn0_2 hn1_2 Q (fun v e fr tk2 τ2 u0 u0' g0 g1 g2 g3 g4 g5 ht hτ => hQ0 v e fr tk2 τ2 u0 u0' g0 g1 g2 g3 g4 g5 ht (by simpa only [af,zbol,hl,ha0,hi0,ha1,hi1,ha2,hi2,hw2,nq hn0_2,nq hn1_2,hty0] using hτ)) (fun v e tk2 τ2 hτ => hQ1 v e tk2 τ2 (by simpa only [af,zbol,hl,ha0,hi0,ha1,hi1,ha2,hi2,hw2,nq hn0_2,nq hn1_2,hty0] using hτ))
   rw [if_neg c6] at h
   injection h with h; subst h
   have ih := ih v3 v4 (IntKind.i64.wrap (v6 + (1 : Int))) rfl
   unfold mh at ih
   simp only [ot,gg,TT,Ic.t,ci,reduceEqDiff,reduceAdd,reduceLT,reduceCtorEq,hl,ha0,hi0,hi1,ha2,hi2,c1,f3.1,f3a,f5.1,f5.2.1,f5a,c6]
   rw [hn]
   simp only [TT,reduceEqDiff,reduceLT,hi0,hi1,hi2]
   exact ih τ o0 o1 o2 _ ty0 (by rfl) (by exact hty0) (by assumption) (by simp only [ha0]) (by assumption) (by simp only [ha1]) (by assumption) (by simp only [ha2]) (by assumption) (by assumption) hn0_2 hn1_2 Q (fun v e fr tk2 τ2 u0 u0' g0 g1 g2 g3 g4 g5 ht hτ => hQ0 v e fr tk2 τ2 u0 u0' g0 g1 g2 g3 g4 g5 ht (by exact hτ)) (fun v e tk2 τ2 hτ => hQ1 v e tk2 τ2 (by exact hτ))
 rw [if_neg c1] at h
 injection h with h; subst h
 obtain rfl : _ = r := ih
 simp only [ot,gg,TT,Ic.t,ci,reduceEqDiff,reduceAdd,reduceCtorEq,hl,ha0,he,c1]
 exact hQ0 (v4,v3) rfl _ _ _ ty0 (by exact hty0) (by rfl) (by rfl) (by rfl) (by rfl) (by rfl) (by rfl) (by rfl) (by simp only [TT,ux ha2])
def gz (v0 : Int) (v1 : aa) (v2 : (List Bool)) (v3 : (List Bool)) (v4 : (List Int)) (v5 : Int) : Option (LS ((List Bool) × (List Int) × Int) (LX ((List Bool)) (Bool × (List Bool)))) :=
 if v5 < ((v4.length : Nat) : Int) then
  pi v0 v1 v2 v5 v3 v4 (0 : Int) >>= fun y2 =>
  match y2 with
  | .ex w3 =>
   some (.nx (w3.2,w3.1,(IntKind.i64.wrap (v5 + (1 : Int)))))
  | .rt w5 =>
   some (.dn (.rt (w5.1,w5.2)))
 else
 some (.dn (.ex v3))
def pj (v0 : Int) (v1 : aa) (v2 : (List Bool)) (v3 : (List Bool)) (v4 : (List Int)) (v5 : Int) : Option (LX ((List Bool)) (Bool × (List Bool))) := kx (fun st => gz v0 v1 v2 st.1 st.2.1 st.2.2) (v3,v4,v5)
theorem zc2v (v0 : Int) (v1 : aa) (v2 : (List Bool)) (v3 : (List Bool)) (v4 : (List Int)) (v5 : Int) : pj v0 v1 v2 v3 v4 v5 = gz v0 v1 v2 v3 v4 v5 >>= LS.go (fun st => pj v0 v1 v2 st.1 st.2.1 st.2.2) := bu (fun st => gz v0 v1 v2 st.1 st.2.1 st.2.2) (v3,v4,v5)
def xt (v0 : Int) (v1 : aa) (v2 : (List Bool)) (v3 : (List Bool)) (v4 : (List Int)) (v5 : Int) (r : LX ((List Bool)) (Bool × (List Bool))) : Prop := ∀ (τ : TH) (o0 : Nat) (o1 : Nat) (o2 : Nat) (n0 : Nat) (ty0 : TypeId) (hnn0 : n0 = v4.length) (hty0 : n0 = 0 ∨ ty0 = cy) (hl : τ.lock ≤ τ.next) (ha0 : τ.at o0 = some ⟨am,[.str v1.ID,.sl (List.map ag.tv v1.Parties),.sl (List.map ac.tv v1.Arcs),.sl (List.map (TV.int .i64) v1.Leaders),.sl (List.map TV.str v1.Locks),.int .i64 v1.Start,.int .i64 v1.Delta]⟩) (hi0 : o0 < τ.next) (ha1 : τ.at o1 = some ⟨qo,List.map TV.bool v2⟩) (hi1 : o1 < τ.next) (ha2 : τ.at o2 = some ⟨qo,List.map TV.bool v3⟩) (hi2 : o2 < τ.next) (hw2 : τ.lock ≤ o2) (hn0_2 : o0 ≠ o2) (hn1_2 : o1 ≠ o2) (Q : TEx → au) (hQ0 : ∀ v : (List Bool),r = (.ex v) → ∀ (fr : TF) (tk2 : TK) (τ2 : TH),∀ (u0 : Option (Nat × TypeId)),True → tk2.take 1 = [u0] → τ2.cut τ.next = (τ.put o2 ⟨qo,List.map TV.bool v⟩) → Q (.exit 2) fr tk2 τ2) (hQ1 : ∀ v : (Bool × (List Bool)),r = (.rt v) → ∀ (tk2 : TK) (τ2 : TH),τ2.cut τ.next = (τ.put o2 ⟨qo,List.map TV.bool v.2⟩) → Q .ret [(8,.bool v.1)] tk2 τ2) ,tW G (.loop [2,4,9,11,12,13] uz) Q [(2,.int .i64 v0),(4,.ptr o0 0),(9,.ptr o1 0),(11,.ptr o2 0),(12,.sla 0 (List.map (TV.int .i64) v4)),(13,.int .i64 v5)] [some (n0,ty0)] τ
theorem zdgs (v0 : Int) (v1 : aa) (v2 : (List Bool)) (v3 : (List Bool)) (v4 : (List Int)) (v5 : Int) (r : LX ((List Bool)) (Bool × (List Bool))) (h : pj v0 v1 v2 v3 v4 v5 = some r) : xt v0 v1 v2 v3 v4 v5 r := by
 refine bf (f := fun st => gz v0 v1 v2 st.1 st.2.1 st.2.2) (P := fun st r => ∀ (v3 : (List Bool)) (v4 : (List Int)) (v5 : Int),(v3,v4,v5) = st → xt v0 v1 v2 v3 v4 v5 r) ?_ h v3 v4 v5 rfl
 clear h r v5 v4 v3
 intro st o h r ih v3 v4 v5 hst τ o0 o1 o2 n0 ty0 hnn0 hty0 hl ha0 hi0 ha1 hi1 ha2 hi2 hw2 hn0_2 hn1_2 Q hQ0 hQ1
 subst hst
 have h : gz v0 v1 v2 v3 v4 v5 = some o := h
 unfold gz at h
 subst hnn0
 refine jo fun LQ hn hr he => ?_
 by_cases c1 : v5 < ((v4.length : Nat) : Int)
 · rw [if_pos c1] at h
   obtain ⟨y2,hy2,h⟩ := ob h
   simp only [uz,gg,TT,Ic.t,ci,reduceEqDiff,c1]
   have Sy2 := zdgt v0 v1 v2 v5 v3 v4 (0 : Int) y2 hy2
   unfold mh at Sy2
   refine Sy2 _ o0 o1 o2 _ ty0 (by rfl) (by assumption) (by assumption) (by simp only [ha0]) (by assumption) (by simp only [ha1]; done) (by assumption) (by simp only [ha2]; done) (by assumption) (by assumption) (by assumption) (by assumption) _ ?_ ?_
   · intro w3 e frq4 tkq4 τq4 u0q4 uh0q4 g2q4 g4q4 g9q4 g11q4 g12q4 g13q4 htq4 hcq4
     subst e
     simp only at h
     have hcq4 := az (n := τ.next) hcq4 (by omega)
     try simp only [List.take_succ_cons,List.take_zero,List.take_nil,CL] at htq4
     try simp only [TT] at hcq4
     injection h with h; subst h
     have ih := ih w3.2 w3.1 (IntKind.i64.wrap (v5 + (1 : Int))) rfl
     unfold xt at ih
     simp only [TT,reduceEqDiff,reduceLT,hi0,hi1,hi2,g2q4,g4q4,g9q4,g11q4,g12q4,g13q4,htq4,hcq4]
     rw [hn]
     simp only [TT,reduceEqDiff,reduceLT,hi0,hi1,hi2]
     exact ih (τ.put o2 ⟨qo,List.map TV.bool w3.2⟩) o0 o1 o2 w3.1.length u0q4 (by rfl) (by assumption) (by simp only [af,ah]; assumption) (by simp only [TT,ha0,nq hn0_2]) (by simp only [af]; assumption) (by simp only [TT,ha1,nq hn1_2]) (by simp only [af]; assumption) (by simp only [TT,hi2]) (by simp only [af]; assumption) (by assumption) hn0_2 hn1_2 Q (fun v e fr tk2 τ2 u0 u0' ht hτ => hQ0 v e fr tk2 τ2 u0 u0' ht (by simpa only [af,zbol,hl,ha0,hi0,ha1,hi1,ha2,hi2,hw2,nq hn0_2,nq hn1_2,hty0] using hτ)) (fun v e tk2 τ2 hτ => hQ1 v e tk2 τ2 (by simpa only [af,zbol,hl,ha0,hi0,ha1,hi1,ha2,hi2,hw2,nq hn0_2,nq hn1_2,hty0] using hτ))
   intro w5 e tkq6 τq6 hcq6
   subst e
   simp only at h
   have hcq6 := az (n := τ.next) hcq6 (by omega)
   try simp only [TT] at hcq6
   injection h with h; subst h
   obtain rfl : _ = r := ih
   simp only [TT,hr]
   exact hQ1 (w5.1,w5.2) rfl _ _ (by simp only [hcq6])
 rw [if_neg c1] at h
 injection h with h; subst h
 obtain rfl : _ = r := ih
 simp only [uz,gg,TT,Ic.t,ci,reduceEqDiff,reduceCtorEq,he,c1]
 exact hQ0 v3 rfl _ _ _ _ trivial (by rfl) (by simp only [TT,ux ha2])
def ue (p1 : aa) (p2 : Int) (p3 : Int) (p4 : (List Int)) : Option Bool :=
 rz p2 p3 p4 p1 [false,false,false,false,false,false] (0 : Int) >>= fun y1 =>
 if 0 ≤ p2 ∧ p2 < ((6 : Nat) : Int) then
  ixL y1 p2 >>= fun y4 =>
  if y4 = true then
   some false
  else
  if 0 ≤ p3 ∧ p3 < ((6 : Nat) : Int) then
   ixL y1 p3 >>= fun y8 =>
   if y8 = true then
    some false
   else
   pj p3 p1 y1 [false,false,false,false,false,false] [p2] (0 : Int) >>= fun y12 =>
   match y12 with
   | .ex w13 =>
    some false
   | .rt w15 =>
    some w15.1
  else
   none
 else
  none
theorem zcsf (p1 : aa) (p2 : Int) (p3 : Int) (p4 : (List Int)) (r : Bool) (h : ue p1 p2 p3 p4 = some r) (τ : TH) (hl : τ.lock ≤ τ.next) : Ru G yz [.agg [.str p1.ID,.sl (List.map ag.tv p1.Parties),.sl (List.map ac.tv p1.Arcs),.sl (List.map (TV.int .i64) p1.Leaders),.sl (List.map TV.str p1.Locks),.int .i64 p1.Start,.int .i64 p1.Delta],.int .i64 p2,.int .i64 p3,.sl (List.map (TV.int .i64) p4)] τ (.bool r) τ := by
 refine jv fun K hK => ?_
 rw [bh zdah (Nat.le_of_ble_eq_true rfl)]
 unfold ue at h
 obtain ⟨y1,hy1,h⟩ := ob h
 simp only [gg,TT,Ic.t,ci,reduceEqDiff,reduceAdd,reduceCtorEq]
 have Sy1 := zdgr p2 p3 p4 p1 [false,false,false,false,false,false] (0 : Int) y1 hy1
 unfold xu at Sy1
 refine Sy1 _ τ.next (τ.next + 1) (by simp only [aj,ap]; omega) (by simp only [TT,reduceLT]) (by simp only [aj]; omega) (by simp only [TT]; done) (by simp only [aj]; omega) (by simp only [ap]; omega) (by omega) _ ?_
 intro frq2 tkq2 τq2 g1q2 g2q2 g4q2 g9q2 htq2 hcq2
 have hcq2 := az (n := τ.next + 2) hcq2 (by simp only [aj]; omega)
 try simp only [List.take_zero] at htq2
 try simp only [TT,reduceAdd] at hcq2
 obtain ⟨c3,h⟩ := ifS h
 obtain ⟨y4,hy4,h⟩ := ob h
 have f5 := aw hy4
 have f5a := (f5.2.2 TV.bool).1
 have f5b := (f5.2.2 TV.bool).2
 try simp only [CL,MC,reduceToNat] at f5 f5a f5b
 by_cases c6 : y4 = true
 · rw [if_pos c6] at h
   injection h with h; subst h
   simp only [TT,reduceEqDiff,reduceAdd,reduceLT,reduceCtorEq,g1q2,g2q2,g4q2,g9q2,hcq2,c3,f5b,c6]
   first | exact hK | (simp only [hl,g1q2,g2q2,g4q2,g9q2,htq2,hcq2,c3,f5.1,f5.2.1,f5a,f5b,c6,CL] at hK; exact hK)
 rw [if_neg c6] at h
 have c6 := Bool.eq_false_iff.2 c6
 obtain ⟨c7,h⟩ := ifS h
 obtain ⟨y8,hy8,h⟩ := ob h
 have f9 := aw hy8
 have f9a := (f9.2.2 TV.bool).1
 have f9b := (f9.2.2 TV.bool).2
 try simp only [CL,MC,reduceToNat] at f9 f9a f9b
 by_cases c10 : y8 = true
 · rw [if_pos c10] at h
   injection h with h; subst h
   simp only [TT,reduceEqDiff,reduceAdd,reduceLT,reduceCtorEq,g1q2,g2q2,g4q2,g9q2,hcq2,c3,f5b,c6,c7,f9b,c10]
   first | exact hK | (simp only [hl,g1q2,g2q2,g4q2,g9q2,htq2,hcq2,c3,f5.1,f5.2.1,f5a,f5b,c6,c7,f9.1,f9.2.1,f9a,f9b,c10,CL] at hK; exact hK)
 rw [if_neg c10] at h
 have c10 := Bool.eq_false_iff.2 c10
 have f11 : 1 ≤ maxLen := by unfold maxLen; omega
 obtain ⟨y12,hy12,h⟩ := ob h
 simp only [TT,reduceEqDiff,reduceAdd,reduceLT,reduceCtorEq,g1q2,g2q2,g4q2,g9q2,hcq2,c3,f5b,c6,c7,f9b,c10,f11]
 have Sy12 := zdgs p3 p1 y1 [false,false,false,false,false,false] [p2] (0 : Int) y12 hy12
 unfold xt at Sy12
 refine Sy12 _ τ.next (τ.next + 1) (τ.next + 2) 1 cy (by rfl) (by exact Or.inr rfl) (by simp only [aj,ap]; omega) (by simp only [TT,reduceAdd,reduceLT]) (by simp only [aj]; omega) (by simp only [TT,reduceAdd,reduceLT]; done) (by simp only [aj]; omega) (by simp only [TT,reduceAdd]; done) (by simp only [aj]; omega) (by simp only [ap]; omega) (by omega) (by omega) _ ?_ ?_
 · intro w13 e frq14 tkq14 τq14 u0q14 uh0q14 htq14 hcq14
   subst e
   simp only at h
   have hcq14 := az (n := τ.next + 3) hcq14 (by simp only [aj]; omega)
   try simp only [List.take_succ_cons,List.take_zero,List.take_nil,CL] at htq14
   try simp only [TT,reduceAdd] at hcq14
   injection h with h; subst h
   simp only [TT,reduceAdd,htq14,hcq14]
   first | exact hK | (simp only [hl,g1q2,g2q2,g4q2,g9q2,htq2,hcq2,c3,f5.1,f5.2.1,f5a,f5b,c6,c7,f9.1,f9.2.1,f9a,f9b,c10,f11,htq14,hcq14,CL] at hK; exact hK)
 intro w15 e tkq16 τq16 hcq16
 subst e
 simp only at h
 have hcq16 := az (n := τ.next) hcq16 (by simp only [aj]; omega)
 try simp only [TT,reduceAdd] at hcq16
 injection h with h; subst h
 simp only [TT,hcq16]
 first | exact hK | (simp only [hl,g1q2,g2q2,g4q2,g9q2,htq2,hcq2,c3,f5.1,f5.2.1,f5a,f5b,c6,c7,f9.1,f9.2.1,f9a,f9b,c10,f11,hcq16,CL] at hK; exact hK)
theorem zcse (p1 : aa) (p2 : Int) (p3 : Int) (p4 : (List Int)) (r : Bool) (h : ue p1 p2 p3 p4 = some r) (lk : Bool) (d : Option Nat) (K : au) (fr : TF) (tk : TK) (τ : TH) (hl : τ.lock ≤ τ.next) : eo G lk yz [.agg [.str p1.ID,.sl (List.map ag.tv p1.Parties),.sl (List.map ac.tv p1.Arcs),.sl (List.map (TV.int .i64) p1.Leaders),.sl (List.map TV.str p1.Locks),.int .i64 p1.Start,.int .i64 p1.Delta],.int .i64 p2,.int .i64 p3,.sl (List.map (TV.int .i64) p4)] d K fr tk τ = K (fv fr d (.bool r)) tk τ :=
 av (zcsf p1 p2 p3 p4 r h τ hl) (zcsf p1 p2 p3 p4 r h (τ.locked τ.next) (Nat.le_refl _) ) (by simp only [TT])
def d5 (v0 : aa) (v1 : Int) (v2 : Int) : Option (LS (Int) (LX (Unit) (Bool))) :=
 if v2 < ((v0.Parties.length : Nat) : Int) then
  if v1 = v2 then
   some (.nx (IntKind.i64.wrap (v2 + (1 : Int))))
  else
  ue v0 v1 v2 [] >>= fun y3 =>
  if y3 = true then
   some (.nx (IntKind.i64.wrap (v2 + (1 : Int))))
  else
  some (.dn (.rt false))
 else
 some (.dn (.ex ()))
def g8 (v0 : aa) (v1 : Int) (v2 : Int) : Option (LX (Unit) (Bool)) := kx (fun st => d5 v0 v1 st) v2
theorem zcgj (v0 : aa) (v1 : Int) (v2 : Int) : g8 v0 v1 v2 = d5 v0 v1 v2 >>= LS.go (fun st => g8 v0 v1 st) := bu (fun st => d5 v0 v1 st) v2
def qb (v0 : aa) (v1 : Int) (v2 : Int) (r : LX (Unit) (Bool)) : Prop := ∀ (τ : TH) (o0 : Nat) (hl : τ.lock ≤ τ.next) (ha0 : τ.at o0 = some ⟨am,[.str v0.ID,.sl (List.map ag.tv v0.Parties),.sl (List.map ac.tv v0.Arcs),.sl (List.map (TV.int .i64) v0.Leaders),.sl (List.map TV.str v0.Locks),.int .i64 v0.Start,.int .i64 v0.Delta]⟩) (hi0 : o0 < τ.next) (Q : TEx → au) (hQ0 : ∀ v : Unit,r = (.ex v) → ∀ (fr : TF) (tk2 : TK) (τ2 : TH),lkp fr 1 = .ptr o0 0 → lkp fr 3 = .int .i64 v1 → tk2.take 0 = [] → τ2.cut τ.next = τ → Q (.exit 2) fr tk2 τ2) (hQ1 : ∀ v : Bool,r = (.rt v) → ∀ (tk2 : TK) (τ2 : TH),τ2.cut τ.next = τ → Q .ret [(2,.bool v)] tk2 τ2) ,tW G (.loop [1,3,4] ru) Q [(1,.ptr o0 0),(3,.int .i64 v1),(4,.int .i64 v2)] [] τ
theorem zdcb (v0 : aa) (v1 : Int) (v2 : Int) (r : LX (Unit) (Bool)) (h : g8 v0 v1 v2 = some r) : qb v0 v1 v2 r := by
 refine bf (f := fun st => d5 v0 v1 st) (P := fun st r => ∀ (v2 : Int),v2 = st → qb v0 v1 v2 r) ?_ h v2 rfl
 clear h r v2
 intro st o h r ih v2 hst τ o0 hl ha0 hi0 Q hQ0 hQ1
 subst hst
 have h : d5 v0 v1 v2 = some o := h
 unfold d5 at h
 refine jo fun LQ hn hr he => ?_
 by_cases c1 : v2 < ((v0.Parties.length : Nat) : Int)
 · rw [if_pos c1] at h
   by_cases c2 : v1 = v2
   · rw [if_pos c2] at h
     injection h with h; subst h
     have ih := ih (IntKind.i64.wrap (v2 + (1 : Int))) rfl
     unfold qb at ih
     simp only [ru,ku,TT,Ic.t,ci,reduceEqDiff,reduceCtorEq,ha0,hi0,c1,eq_true c2]
     rw [hn]
     simp only [TT,reduceEqDiff,hi0]
     exact ih τ o0 (by assumption) (by simp only [ha0]) (by assumption) Q hQ0 hQ1
   rw [if_neg c2] at h
   obtain ⟨y3,hy3,h⟩ := ob h
   have k4 := zcse v0 v1 v2 [] _ hy3
   try simp only [MC] at k4
   by_cases c5 : y3 = true
   · rw [if_pos c5] at h
     injection h with h; subst h
     have ih := ih (IntKind.i64.wrap (v2 + (1 : Int))) rfl
     unfold qb at ih
     simp only [ru,ku,TT,Ic.t,ci,reduceEqDiff,reduceAdd,reduceCtorEq,hl,ha0,hi0,c1,c2,k4,c5]
     rw [hn]
     simp only [TT,reduceEqDiff,hi0]
     exact ih τ o0 (by assumption) (by simp only [ha0]) (by assumption) Q hQ0 hQ1
   rw [if_neg c5] at h
   have c5 := Bool.eq_false_iff.2 c5
   injection h with h; subst h
   obtain rfl : _ = r := ih
   simp only [ru,ku,TT,Ic.t,ci,reduceEqDiff,reduceAdd,reduceCtorEq,hl,ha0,hi0,he,hr,c1,c2,k4,c5]
   exact hQ1 false rfl _ _ (by simp only [TT])
 rw [if_neg c1] at h
 injection h with h; subst h
 obtain rfl : _ = r := ih
 simp only [ru,ku,TT,Ic.t,ci,reduceEqDiff,reduceCtorEq,ha0,he,c1]
 exact hQ0 () rfl _ _ _ (by rfl) (by rfl) (by rfl) (by simp only [TT])
def d6 (v0 : aa) (v1 : Int) : Option (LS (Int) (LX (Unit) (Bool))) :=
 if v1 < ((v0.Parties.length : Nat) : Int) then
  g8 v0 v1 (0 : Int) >>= fun y2 =>
  match y2 with
  | .ex w3 =>
   some (.nx (IntKind.i64.wrap (v1 + (1 : Int))))
  | .rt w5 =>
   some (.dn (.rt w5))
 else
 some (.dn (.ex ()))
def g9 (v0 : aa) (v1 : Int) : Option (LX (Unit) (Bool)) := kx (fun st => d6 v0 st) v1
theorem zcgi (v0 : aa) (v1 : Int) : g9 v0 v1 = d6 v0 v1 >>= LS.go (fun st => g9 v0 st) := bu (fun st => d6 v0 st) v1
def va (v0 : aa) (v1 : Int) (r : LX (Unit) (Bool)) : Prop := ∀ (τ : TH) (o0 : Nat) (hl : τ.lock ≤ τ.next) (ha0 : τ.at o0 = some ⟨am,[.str v0.ID,.sl (List.map ag.tv v0.Parties),.sl (List.map ac.tv v0.Arcs),.sl (List.map (TV.int .i64) v0.Leaders),.sl (List.map TV.str v0.Locks),.int .i64 v0.Start,.int .i64 v0.Delta]⟩) (hi0 : o0 < τ.next) (Q : TEx → au) (hQ0 : ∀ v : Unit,r = (.ex v) → ∀ (fr : TF) (tk2 : TK) (τ2 : TH),tk2.take 0 = [] → τ2.cut τ.next = τ → Q (.exit 0) fr tk2 τ2) (hQ1 : ∀ v : Bool,r = (.rt v) → ∀ (tk2 : TK) (τ2 : TH),τ2.cut τ.next = τ → Q .ret [(2,.bool v)] tk2 τ2) ,tW G (.loop [1,3] rv) Q [(1,.ptr o0 0),(3,.int .i64 v1)] [] τ
theorem zdca (v0 : aa) (v1 : Int) (r : LX (Unit) (Bool)) (h : g9 v0 v1 = some r) : va v0 v1 r := by
 refine bf (f := fun st => d6 v0 st) (P := fun st r => ∀ (v1 : Int),v1 = st → va v0 v1 r) ?_ h v1 rfl
 clear h r v1
 intro st o h r ih v1 hst τ o0 hl ha0 hi0 Q hQ0 hQ1
 subst hst
 have h : d6 v0 v1 = some o := h
 unfold d6 at h
 refine jo fun LQ hn hr he => ?_
 by_cases c1 : v1 < ((v0.Parties.length : Nat) : Int)
 · rw [if_pos c1] at h
   obtain ⟨y2,hy2,h⟩ := ob h
   simp only [rv,ku,TT,Ic.t,ci,reduceEqDiff,ha0,c1]
   have Sy2 := zdcb v0 v1 (0 : Int) y2 hy2
   unfold qb at Sy2
   refine Sy2 _ o0 (by assumption) (by simp only [ha0]) (by assumption) _ ?_ ?_
   · intro w3 e frq4 tkq4 τq4 g1q4 g3q4 htq4 hcq4
     subst e
     simp only at h
     have hcq4 := az (n := τ.next) hcq4 (by omega)
     try simp only [List.take_zero] at htq4
     try simp only [TT] at hcq4
     injection h with h; subst h
     have ih := ih (IntKind.i64.wrap (v1 + (1 : Int))) rfl
     unfold va at ih
     simp only [TT,reduceEqDiff,hi0,g1q4,g3q4,hcq4]
     rw [hn]
     simp only [TT,reduceEqDiff,hi0]
     exact ih τ o0 (by assumption) (by simp only [ha0]) (by assumption) Q hQ0 hQ1
   intro w5 e tkq6 τq6 hcq6
   subst e
   simp only at h
   have hcq6 := az (n := τ.next) hcq6 (by omega)
   try simp only [TT] at hcq6
   injection h with h; subst h
   obtain rfl : _ = r := ih
   simp only [TT,hr]
   exact hQ1 w5 rfl _ _ (by simp only [hcq6])
 rw [if_neg c1] at h
 injection h with h; subst h
 obtain rfl : _ = r := ih
 simp only [rv,ku,TT,Ic.t,ci,reduceEqDiff,reduceCtorEq,ha0,he,c1]
 exact hQ0 () rfl _ _ _ (by rfl) (by simp only [TT])
end
end Go.Proofs.Ytdcfoaafkppojaa
