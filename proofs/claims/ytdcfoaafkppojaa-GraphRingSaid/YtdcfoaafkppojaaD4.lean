import Derived.Test.YtdcfoaafkppojaaM21
set_option linter.unusedVariables false
set_option linter.unusedSimpArgs false
set_option linter.unusedSectionVars false
open Nat (reduceEqDiff reduceAdd reduceMul reduceLT reduceLeDiff reduceSub)
open Int (reduceToNat reduceNe reduceEq reduceNeg reduceLE)
namespace Go.Proofs.Ytdcfoaafkppojaa
open Go Go.RowKit Sh Ic
noncomputable section
def sm (p1 : Int) (p2 : Int) : Option Bool :=
 lq p1 (0 : Int) (IntKind.i64.wrap (p2 - (1 : Int))) >>= fun y1 =>
 some (!y1)
theorem zcgq (p1 : Int) (p2 : Int) (r : Bool) (h : sm p1 p2 = some r) (τ : TH) (o0 : Nat) (hl : τ.lock ≤ τ.next) (ha0 : τ.at o0 = some ⟨de,[.int .i64 p2]⟩) (hi0 : o0 < τ.next) : Ru G fx [.int .i64 p1,.ptr o0 0] τ (.bool r) τ := by
 refine li fun K hK => ?_
 rw [ce zcqw (Nat.le_of_ble_eq_true rfl)]
 unfold sm at h
 obtain ⟨y1,hy1,h⟩ := ob h
 have k2 := ms p1 (0 : Int) (IntKind.i64.wrap (p2 - (1 : Int))) _ hy1
 try simp only [CL,MC,reduceToNat] at k2
 injection h with h; subst h
 simp only [zcqf,TT,Ic.t,ci,reduceEqDiff,reduceIte,reduceAdd,reduceLT,reduceCtorEq,reduceToNat,hl,ha0,hi0,k2,CL,LTN]
 exact hK
theorem zcru (p1 : Int) (p2 : Int) (r : Bool) (h : sm p1 p2 = some r) (lk : Bool) (d : Option Nat) (K : aq) (fr : TF) (tk : TK) (τ : TH) (o0 : Nat) (hl : τ.lock ≤ τ.next) (ha0 : τ.at o0 = some ⟨de,[.int .i64 p2]⟩) (hi0 : o0 < τ.next) : fi G lk fx [.int .i64 p1,.ptr o0 0] d K fr tk τ = K (ew fr d (.bool r)) tk τ :=
 aw (zcgq p1 p2 r h τ o0 hl ha0 hi0) (zcgq p1 p2 r h (τ.locked τ.next) o0 (Nat.le_refl _) (by rw [zaqi]; exact ha0) hi0) (by simp only [TT,Ic.t,ci,reduceEqDiff,reduceIte,reduceAdd,reduceLT,reduceCtorEq,reduceToNat,hl,ha0,hi0,CL,LTN])
def ay (v0 : (List Int)) (v1 : Int) (v2 : Int) (v3 : Int) : Option (LS (Int) (LX (Unit) (Int))) :=
 if v3 < v2 then
  ixL v0 v3 >>= fun y2 =>
  sm y2 v1 >>= fun y4 =>
  if y4 = true then
   some (.dn (.rt v3))
  else
  some (.nx (IntKind.i64.wrap (v3 + (1 : Int))))
 else
 some (.dn (.ex ()))
def cz (v0 : (List Int)) (v1 : Int) (v2 : Int) (v3 : Int) : Option (LX (Unit) (Int)) := qb (fun st => ay v0 v1 v2 st) v3
theorem m7 (v0 : (List Int)) (v1 : Int) (v2 : Int) (v3 : Int) : cz v0 v1 v2 v3 = ay v0 v1 v2 v3 >>= LS.go (fun st => cz v0 v1 v2 st) := ig (fun st => ay v0 v1 v2 st) v3
def eo (v0 : (List Int)) (v1 : Int) (v2 : Int) (v3 : Int) (r : LX (Unit) (Int)) : Prop := ∀ (τ : TH) (o0 : Nat) (hl : τ.lock ≤ τ.next) (ha0 : τ.at o0 = some ⟨de,[.int .i64 v1]⟩) (hi0 : o0 < τ.next) (Q : TEx → aq) (hQ0 : ∀ v : Unit,r = (.ex v) → ∀ (fr : TF) (tk2 : TK) (τ2 : TH),tk2.take 0 = [] → τ2.cut τ.next = τ → Q (.exit 0) fr tk2 τ2) (hQ1 : ∀ v : Int,r = (.rt v) → ∀ (tk2 : TK) (τ2 : TH),τ2.cut τ.next = τ → Q .ret [(4,.int .i64 v)] tk2 τ2) ,tW G (.loop [0,1,7,8] d7) Q [(0,.sl (List.map (TV.int .i64) v0)),(1,.func fx [] [.ptr o0 0]),(7,.int .i64 v2),(8,.int .i64 v3)] [] τ
theorem wa (v0 : (List Int)) (v1 : Int) (v2 : Int) (v3 : Int) (r : LX (Unit) (Int)) (h : cz v0 v1 v2 v3 = some r) : eo v0 v1 v2 v3 r := by
 refine fh (f := fun st => ay v0 v1 v2 st) (P := fun st r => ∀ (v3 : Int),v3 = st → eo v0 v1 v2 v3 r) ?_ h v3 rfl
 clear h r v3
 intro st o h r ih v3 hst τ o0  hl ha0 hi0 Q hQ0 hQ1
 subst hst
 have h : ay v0 v1 v2 v3 = some o := h
 unfold ay at h
 refine nv fun LQ hn hr he => ?_
 by_cases c1 : v3 < v2
 · rw [if_pos c1] at h
   obtain ⟨y2,hy2,h⟩ := ob h
   have f3 := bx hy2
   have f3a := (f3.2.2 (TV.int .i64)).1
   have f3b := (f3.2.2 (TV.int .i64)).2
   try simp only [CL,MC,reduceToNat] at f3 f3a f3b
   obtain ⟨y4,hy4,h⟩ := ob h
   have k5 := zcru y2 v1 _ hy4
   try simp only [CL,MC,reduceToNat] at k5
   by_cases c6 : y4 = true
   · rw [if_pos c6] at h
     injection h with h; subst h
     obtain rfl : _ = r := ih
     simp only [d7,dw,TT,Ic.t,ci,reduceEqDiff,reduceIte,reduceAdd,reduceLT,reduceCtorEq,reduceToNat,hl,ha0,hi0,he,hr,c1,f3.1,f3.2.1,f3a,f3b,k5,c6,CL,LTN]
     exact hQ1 v3 rfl  _ _  (by first | exact jf (Nat.le_refl _) | (simp only [TT,Ic.t,ci,reduceEqDiff,reduceIte,reduceAdd,reduceLT,reduceCtorEq,reduceToNat,hl,ha0,hi0,c1,f3.1,f3.2.1,f3a,f3b,k5,c6,CL,LTN]))
   rw [if_neg c6] at h
   have c6 := Bool.eq_false_iff.2 c6
   injection h with h; subst h
   have ih := ih (IntKind.i64.wrap (v3 + (1 : Int))) rfl
   unfold eo at ih
   simp only [d7,dw,TT,Ic.t,ci,reduceEqDiff,reduceIte,reduceAdd,reduceLT,reduceCtorEq,reduceToNat,hl,ha0,hi0,c1,f3.1,f3.2.1,f3a,f3b,k5,c6,CL,LTN]
   rw [hn]
   simp only [TT,Ic.t,ci,reduceEqDiff,reduceIte,reduceAdd,reduceLT,reduceCtorEq,reduceToNat,hl,ha0,hi0,c1,f3.1,f3.2.1,f3a,f3b,k5,c6,CL,LTN]
   exact ih  τ o0   (by first | assumption | (simp only [ag,ah]; assumption)) (by simp only [TT,Ic.t,ci,reduceEqDiff,reduceIte,reduceAdd,reduceLT,reduceCtorEq,reduceToNat,hl,ha0,hi0,c1,f3.1,f3.2.1,f3a,f3b,k5,c6,CL,LTN]) (by first | assumption | (simp only [ag,ah]; assumption)) Q hQ0 hQ1
 rw [if_neg c1] at h
 injection h with h; subst h
 obtain rfl : _ = r := ih
 simp only [d7,dw,TT,Ic.t,ci,reduceEqDiff,reduceIte,reduceAdd,reduceLT,reduceCtorEq,reduceToNat,hl,ha0,hi0,he,hr,c1,CL,LTN]
 exact hQ0 () rfl  _ _ _   (by first | rfl | (simp only [TT,Ic.t,ci,reduceEqDiff,reduceIte,reduceAdd,reduceLT,reduceCtorEq,reduceToNat,hl,ha0,hi0,c1,CL,LTN])) (by first | exact jf (Nat.le_refl _) | (simp only [TT,Ic.t,ci,reduceEqDiff,reduceIte,reduceAdd,reduceLT,reduceCtorEq,reduceToNat,hl,ha0,hi0,c1,CL,LTN]))
def ey (p1 : (List Int)) (p2 : Int) : Option Int :=
 cz p1 p2 ((p1.length : Nat) : Int) (0 : Int) >>= fun y1 =>
 match y1 with
 | .ex w2 =>
  some (-1 : Int)
 | .rt w4 =>
  some w4
theorem pc (p1 : (List Int)) (p2 : Int) (r : Int) (h : ey p1 p2 = some r) (τ : TH) (o0 : Nat) (hl : τ.lock ≤ τ.next) (ha0 : τ.at o0 = some ⟨de,[.int .i64 p2]⟩) (hi0 : o0 < τ.next) : Ru G dy [.sl (List.map (TV.int .i64) p1),.func fx [] [.ptr o0 0]] τ (.int .i64 r) τ := by
 refine li fun K hK => ?_
 rw [ce zcs0 (Nat.le_of_ble_eq_true rfl)]
 unfold ey at h
 obtain ⟨y1,hy1,h⟩ := ob h
 simp only [dw,TT,Ic.t,ci,reduceEqDiff,reduceIte,reduceAdd,reduceLT,reduceCtorEq,reduceToNat,hl,ha0,hi0,CL,LTN]
 have Sy1 := wa p1 p2 ((p1.length : Nat) : Int) (0 : Int) y1 hy1
 unfold eo at Sy1
 refine Sy1 _ o0 (by first | assumption | omega | (simp only [ag,am,ah,az]; omega)) (by simp only [TT,Ic.t,ci,reduceEqDiff,reduceIte,reduceAdd,reduceLT,reduceCtorEq,reduceToNat,hl,ha0,hi0,CL,LTN]) (by first | assumption | omega | (simp only [ag,am,ah,az]; omega)) _ ?_ ?_
 · intro w2 e frq3 tkq3 τq3 htq3 hcq3
   subst e
   simp only at h
   have hcq3 := eq (n := τ.next) hcq3 (by first | omega | (simp only [ag,am]; omega))
   try simp only [List.take_succ_cons,List.take_zero,List.take_nil,CL] at htq3
   try simp only [TT,Ic.t,ci,reduceEqDiff,reduceIte,reduceAdd,reduceLT,reduceCtorEq,reduceToNat,hl,ha0,hi0,CL,LTN] at hcq3
   injection h with h; subst h
   simp only [dw,TT,Ic.t,ci,reduceEqDiff,reduceIte,reduceAdd,reduceLT,reduceCtorEq,reduceToNat,hl,ha0,hi0,htq3,hcq3,CL,LTN]
   exact hK
 intro w4 e tkq5 τq5 hcq5
 subst e
 simp only at h
 have hcq5 := eq (n := τ.next) hcq5 (by first | omega | (simp only [ag,am]; omega))
 try simp only [TT,Ic.t,ci,reduceEqDiff,reduceIte,reduceAdd,reduceLT,reduceCtorEq,reduceToNat,hl,ha0,hi0,CL,LTN] at hcq5
 injection h with h; subst h
 simp only [dw,TT,Ic.t,ci,reduceEqDiff,reduceIte,reduceAdd,reduceLT,reduceCtorEq,reduceToNat,hl,ha0,hi0,hcq5,CL,LTN]
 exact hK
theorem yr (p1 : (List Int)) (p2 : Int) (r : Int) (h : ey p1 p2 = some r) (lk : Bool) (d : Option Nat) (K : aq) (fr : TF) (tk : TK) (τ : TH) (o0 : Nat) (hl : τ.lock ≤ τ.next) (ha0 : τ.at o0 = some ⟨de,[.int .i64 p2]⟩) (hi0 : o0 < τ.next) : fi G lk dy [.sl (List.map (TV.int .i64) p1),.func fx [] [.ptr o0 0]] d K fr tk τ = K (ew fr d (.int .i64 r)) tk τ :=
 aw (pc p1 p2 r h τ o0 hl ha0 hi0) (pc p1 p2 r h (τ.locked τ.next) o0 (Nat.le_refl _) (by rw [zaqi]; exact ha0) hi0) (by simp only [TT,Ic.t,ci,reduceEqDiff,reduceIte,reduceAdd,reduceLT,reduceCtorEq,reduceToNat,hl,ha0,hi0,CL,LTN])
def da (p1 : (List Int)) (p2 : Int) : Option Bool :=
 ey p1 p2 >>= fun y1 =>
 some (decide ((0 : Int) ≤ y1))
theorem nf (p1 : (List Int)) (p2 : Int) (r : Bool) (h : da p1 p2 = some r) (τ : TH) (o0 : Nat) (hl : τ.lock ≤ τ.next) (ha0 : τ.at o0 = some ⟨de,[.int .i64 p2]⟩) (hi0 : o0 < τ.next) : Ru G db [.sl (List.map (TV.int .i64) p1),.func fx [] [.ptr o0 0]] τ (.bool r) τ := by
 refine li fun K hK => ?_
 rw [ce yd (Nat.le_of_ble_eq_true rfl)]
 unfold da at h
 obtain ⟨y1,hy1,h⟩ := ob h
 have k2 := yr p1 p2 _ hy1
 try simp only [CL,MC,reduceToNat] at k2
 injection h with h; subst h
 simp only [yj,TT,Ic.t,ci,reduceEqDiff,reduceIte,reduceAdd,reduceLT,reduceCtorEq,reduceToNat,hl,ha0,hi0,k2,CL,LTN]
 exact hK
theorem wb (p1 : (List Int)) (p2 : Int) (r : Bool) (h : da p1 p2 = some r) (lk : Bool) (d : Option Nat) (K : aq) (fr : TF) (tk : TK) (τ : TH) (o0 : Nat) (hl : τ.lock ≤ τ.next) (ha0 : τ.at o0 = some ⟨de,[.int .i64 p2]⟩) (hi0 : o0 < τ.next) : fi G lk db [.sl (List.map (TV.int .i64) p1),.func fx [] [.ptr o0 0]] d K fr tk τ = K (ew fr d (.bool r)) tk τ :=
 aw (nf p1 p2 r h τ o0 hl ha0 hi0) (nf p1 p2 r h (τ.locked τ.next) o0 (Nat.le_refl _) (by rw [zaqi]; exact ha0) hi0) (by simp only [TT,Ic.t,ci,reduceEqDiff,reduceIte,reduceAdd,reduceLT,reduceCtorEq,reduceToNat,hl,ha0,hi0,CL,LTN])
def d5 (v0 : ac) (v1 : Int) (v2 : Int) (v4 : (List af)) (v5 : Int) (v3 : (List ByteArray)) (v6 : Int) : Option (LS ((List ByteArray) × Int) (LX ((List ByteArray)) (Bool))) :=
 if v6 < v5 then
  ixL v4 v6 >>= fun y2 =>
  pu y2.Account >>= fun y4 =>
  if y4 = true then
   pt y2.Keys v2 (16 : Int) >>= fun y7 =>
   if y7 = true then
    if (v3.length + 1) * 16 ≤ 140737488355328 then
     some (.nx ((v3 ++ [y2.Account]),(IntKind.i64.wrap (v6 + (1 : Int)))))
    else
     none
   else
   some (.dn (.rt false))
  else
  some (.dn (.rt false))
 else
 some (.dn (.ex v3))
def lu (v0 : ac) (v1 : Int) (v2 : Int) (v4 : (List af)) (v5 : Int) (v3 : (List ByteArray)) (v6 : Int) : Option (LX ((List ByteArray)) (Bool)) := qb (fun st => d5 v0 v1 v2 v4 v5 st.1 st.2) (v3,v6)
theorem zchl (v0 : ac) (v1 : Int) (v2 : Int) (v4 : (List af)) (v5 : Int) (v3 : (List ByteArray)) (v6 : Int) : lu v0 v1 v2 v4 v5 v3 v6 = d5 v0 v1 v2 v4 v5 v3 v6 >>= LS.go (fun st => lu v0 v1 v2 v4 v5 st.1 st.2) := ig (fun st => d5 v0 v1 v2 v4 v5 st.1 st.2) (v3,v6)
def qu (v0 : ac) (v1 : Int) (v2 : Int) (v4 : (List af)) (v5 : Int) (v3 : (List ByteArray)) (v6 : Int) (r : LX ((List ByteArray)) (Bool)) : Prop := ∀ (τ : TH) (o0 : Nat) (o1 : Nat) (n0 : Nat) (ty0 : TypeId) (hnn0 : n0 = v3.length) (hty0 : n0 = 0 ∨ ty0 = eu) (hl : τ.lock ≤ τ.next) (ha0 : τ.at o0 = some ⟨a9,[.str v0.ID,.sl (List.map af.tv v0.Parties),.sl (List.map aa.tv v0.Arcs),.sl (List.map (TV.int .i64) v0.Leaders),.sl (List.map TV.str v0.Locks),.int .i64 v0.Start,.int .i64 v0.Delta]⟩) (hi0 : o0 < τ.next) (ha1 : τ.at o1 = some ⟨de,[.int .i64 v1]⟩) (hi1 : o1 < τ.next) (Q : TEx → aq) (hQ0 : ∀ v : (List ByteArray),r = (.ex v) → ∀ (fr : TF) (tk2 : TK) (τ2 : TH),∀ (u0 : TypeId),(v.length = 0 ∨ u0 = eu) → lkp fr 1 = .ptr o0 0 → lkp fr 3 = .ptr o1 0 → lkp fr 5 = .sla 0 (List.map TV.str v) → tk2.take 1 = [some (v.length,u0)] → τ2.cut τ.next = τ → Q (.exit 0) fr tk2 τ2) (hQ1 : ∀ v : Bool,r = (.rt v) → ∀ (tk2 : TK) (τ2 : TH),τ2.cut τ.next = τ → Q .ret [(2,.bool v)] tk2 τ2) ,tW G (.loop [1,3,4,5,59,60,61] ou) Q [(1,.ptr o0 0),(3,.ptr o1 0),(4,.int .i64 v2),(5,.sla 0 (List.map TV.str v3)),(59,.sl (List.map af.tv v4)),(60,.int .i64 v5),(61,.int .i64 v6)] [some (n0,ty0)] τ
theorem zcsa (v0 : ac) (v1 : Int) (v2 : Int) (v4 : (List af)) (v5 : Int) (v3 : (List ByteArray)) (v6 : Int) (r : LX ((List ByteArray)) (Bool)) (h : lu v0 v1 v2 v4 v5 v3 v6 = some r) : qu v0 v1 v2 v4 v5 v3 v6 r := by
 refine fh (f := fun st => d5 v0 v1 v2 v4 v5 st.1 st.2) (P := fun st r => ∀ (v3 : (List ByteArray)) (v6 : Int),(v3,v6) = st → qu v0 v1 v2 v4 v5 v3 v6 r) ?_ h v3 v6 rfl
 clear h r v6 v3
 intro st o h r ih v3 v6 hst τ o0 o1  n0 ty0 hnn0 hty0 hl ha0 hi0 ha1 hi1 Q hQ0 hQ1
 subst hst
 have h : d5 v0 v1 v2 v4 v5 v3 v6 = some o := h
 unfold d5 at h
 subst hnn0
 refine nv fun LQ hn hr he => ?_
 by_cases c1 : v6 < v5
 · rw [if_pos c1] at h
   obtain ⟨y2,hy2,h⟩ := ob h
   have f3 := bx hy2
   have f3a := (f3.2.2 af.tv).1
   have f3b := (f3.2.2 af.tv).2
   try simp only [CL,MC,reduceToNat] at f3 f3a f3b
   obtain ⟨y4,hy4,h⟩ := ob h
   have k5 := zb1e y2.Account _ hy4
   try simp only [CL,MC,reduceToNat] at k5
   by_cases c6 : y4 = true
   · rw [if_pos c6] at h
     obtain ⟨y7,hy7,h⟩ := ob h
     have k8 := zcek y2.Keys v2 (16 : Int) _ hy7
     try simp only [CL,MC,reduceToNat] at k8
     by_cases c9 : y7 = true
     · rw [if_pos c9] at h
       obtain ⟨c10,h⟩ := ifS h
       have f11 : 1 ≤ maxLen := by unfold maxLen; omega
       have f12 : v3.length + 1 ≤ maxLen := by unfold maxLen; omega
       have f13 : ((List.map TV.str v3).all fun e => e.cells.length == 1) = true := zbbh (fun _ => rfl) _
       have f14 : List.map TV.str v3 ++ List.map TV.str [y2.Account] = List.map TV.str (v3 ++ [y2.Account]) := zbjb _ _
       try simp only [CL,List.map_cons,List.map_nil] at f14
       injection h with h; subst h
       have ih := ih (v3 ++ [y2.Account]) (IntKind.i64.wrap (v6 + (1 : Int))) rfl
       unfold qu at ih
       simp only [lkp.eq_1,↓cp,jm,jl,jj,ji,List.isEmpty_cons,ee,cw,tSg,tT,tS,tD,pnT,be,gu,pnK,jz,gg,List.filter_cons,List.filter_nil,List.filterMap_cons,List.filterMap_nil,bb,dd,lm,cy,Ins.dsts,Ins.looks,I.ops,o6,pn,List.all_cons,List.all_nil,List.any_cons,List.any_nil,List.contains_cons,List.contains_nil,List.append_nil,List.nil_append,List.cons_append,Option.toList_some,Option.toList_none,Option.isSome_some,Option.isSome_none,Bool.and_true,Bool.true_and,Bool.and_false,Bool.false_and,Bool.or_false,Bool.false_or,Bool.or_true,Bool.true_or,Bool.not_false,Bool.not_true,and_true,true_and,and_false,false_and,Nat.reduceBEq,bne_iff_ne,ou,b7,TT,Ic.t,ci,reduceEqDiff,reduceIte,reduceAdd,reduceMul,reduceLT,reduceLeDiff,reduceSub,reduceCtorEq,reduceEq,reduceNe,reduceToNat,Int.reduceLT,reduceLE,reduceNeg,hl,ha0,hi0,ha1,hi1,hty0,c1,f3.1,f3.2.1,f3a,f3b,k5,c6,k8,c9,c10,f11,f12,f13,f14,CL,LTN]
       rw [hn]
       simp only [TT,Ic.t,ci,reduceEqDiff,reduceIte,reduceAdd,reduceMul,reduceLT,reduceLeDiff,reduceSub,reduceCtorEq,reduceEq,reduceNe,reduceToNat,Int.reduceLT,reduceLE,reduceNeg,hl,ha0,hi0,ha1,hi1,hty0,c1,f3.1,f3.2.1,f3a,f3b,k5,c6,k8,c9,c10,f11,f12,f13,f14,CL,LTN]
       exact ih  τ o0 o1  (v3.length + 1) eu (by first | rfl | simp [ar]) (by first | exact hty0 | exact Or.inr rfl | assumption | simp) (by first | assumption | (simp only [ag,ah]; assumption)) (by simp only [TT,Ic.t,ci,reduceEqDiff,reduceIte,reduceAdd,reduceMul,reduceLT,reduceLeDiff,reduceSub,reduceCtorEq,reduceEq,reduceNe,reduceToNat,Int.reduceLT,reduceLE,reduceNeg,hl,ha0,hi0,ha1,hi1,hty0,c1,f3.1,f3.2.1,f3a,f3b,k5,c6,k8,c9,c10,f11,f12,f13,f14,CL,LTN]) (by first | assumption | (simp only [ag,ah]; assumption)) (by simp only [TT,Ic.t,ci,reduceEqDiff,reduceIte,reduceAdd,reduceMul,reduceLT,reduceLeDiff,reduceSub,reduceCtorEq,reduceEq,reduceNe,reduceToNat,Int.reduceLT,reduceLE,reduceNeg,hl,ha0,hi0,ha1,hi1,hty0,c1,f3.1,f3.2.1,f3a,f3b,k5,c6,k8,c9,c10,f11,f12,f13,f14,CL,LTN]) (by first | assumption | (simp only [ag,ah]; assumption)) Q hQ0 hQ1
     rw [if_neg c9] at h
     have c9 := Bool.eq_false_iff.2 c9
     injection h with h; subst h
     obtain rfl : _ = r := ih
     simp only [lkp.eq_1,↓cp,jm,jl,jj,ji,List.isEmpty_cons,ee,cw,tSg,tT,tS,tD,pnT,be,gu,pnK,jz,gg,List.filter_cons,List.filter_nil,List.filterMap_cons,List.filterMap_nil,bb,dd,lm,cy,Ins.dsts,Ins.looks,I.ops,o6,pn,List.all_cons,List.all_nil,List.any_cons,List.any_nil,List.contains_cons,List.contains_nil,List.append_nil,List.nil_append,List.cons_append,Option.toList_some,Option.toList_none,Option.isSome_some,Option.isSome_none,Bool.and_true,Bool.true_and,Bool.and_false,Bool.false_and,Bool.or_false,Bool.false_or,Bool.or_true,Bool.true_or,Bool.not_false,Bool.not_true,and_true,true_and,and_false,false_and,Nat.reduceBEq,bne_iff_ne,ou,b7,TT,Ic.t,ci,reduceEqDiff,reduceIte,reduceAdd,reduceMul,reduceLT,reduceLeDiff,reduceSub,reduceCtorEq,reduceEq,reduceNe,reduceToNat,Int.reduceLT,reduceLE,reduceNeg,hl,ha0,hi0,ha1,hi1,hty0,he,hr,c1,f3.1,f3.2.1,f3a,f3b,k5,c6,k8,c9,CL,LTN]
     exact hQ1 false rfl  _ _  (by first | exact jf (Nat.le_refl _) | (simp only [TT,Ic.t,ci,reduceEqDiff,reduceIte,reduceAdd,reduceMul,reduceLT,reduceLeDiff,reduceSub,reduceCtorEq,reduceEq,reduceNe,reduceToNat,Int.reduceLT,reduceLE,reduceNeg,hl,ha0,hi0,ha1,hi1,hty0,c1,f3.1,f3.2.1,f3a,f3b,k5,c6,k8,c9,CL,LTN]))
   rw [if_neg c6] at h
   have c6 := Bool.eq_false_iff.2 c6
   injection h with h; subst h
   obtain rfl : _ = r := ih
   simp only [lkp.eq_1,↓cp,jm,jl,jj,ji,List.isEmpty_cons,ee,cw,tSg,tT,tS,tD,pnT,be,gu,pnK,jz,gg,List.filter_cons,List.filter_nil,List.filterMap_cons,List.filterMap_nil,bb,dd,lm,cy,Ins.dsts,Ins.looks,I.ops,o6,pn,List.all_cons,List.all_nil,List.any_cons,List.any_nil,List.contains_cons,List.contains_nil,List.append_nil,List.nil_append,List.cons_append,Option.toList_some,Option.toList_none,Option.isSome_some,Option.isSome_none,Bool.and_true,Bool.true_and,Bool.and_false,Bool.false_and,Bool.or_false,Bool.false_or,Bool.or_true,Bool.true_or,Bool.not_false,Bool.not_true,and_true,true_and,and_false,false_and,Nat.reduceBEq,bne_iff_ne,ou,b7,TT,Ic.t,ci,reduceEqDiff,reduceIte,reduceAdd,reduceMul,reduceLT,reduceLeDiff,reduceSub,reduceCtorEq,reduceEq,reduceNe,reduceToNat,Int.reduceLT,reduceLE,reduceNeg,hl,ha0,hi0,ha1,hi1,hty0,he,hr,c1,f3.1,f3.2.1,f3a,f3b,k5,c6,CL,LTN]
   exact hQ1 false rfl  _ _  (by first | exact jf (Nat.le_refl _) | (simp only [TT,Ic.t,ci,reduceEqDiff,reduceIte,reduceAdd,reduceMul,reduceLT,reduceLeDiff,reduceSub,reduceCtorEq,reduceEq,reduceNe,reduceToNat,Int.reduceLT,reduceLE,reduceNeg,hl,ha0,hi0,ha1,hi1,hty0,c1,f3.1,f3.2.1,f3a,f3b,k5,c6,CL,LTN]))
 rw [if_neg c1] at h
 injection h with h; subst h
 obtain rfl : _ = r := ih
 simp only [lkp.eq_1,↓cp,jm,jl,jj,ji,List.isEmpty_cons,ee,cw,tSg,tT,tS,tD,pnT,be,gu,pnK,jz,gg,List.filter_cons,List.filter_nil,List.filterMap_cons,List.filterMap_nil,bb,dd,lm,cy,Ins.dsts,Ins.looks,I.ops,o6,pn,List.all_cons,List.all_nil,List.any_cons,List.any_nil,List.contains_cons,List.contains_nil,List.append_nil,List.nil_append,List.cons_append,Option.toList_some,Option.toList_none,Option.isSome_some,Option.isSome_none,Bool.and_true,Bool.true_and,Bool.and_false,Bool.false_and,Bool.or_false,Bool.false_or,Bool.or_true,Bool.true_or,Bool.not_false,Bool.not_true,and_true,true_and,and_false,false_and,Nat.reduceBEq,bne_iff_ne,ou,b7,TT,Ic.t,ci,reduceEqDiff,reduceIte,reduceAdd,reduceMul,reduceLT,reduceLeDiff,reduceSub,reduceCtorEq,reduceEq,reduceNe,reduceToNat,Int.reduceLT,reduceLE,reduceNeg,hl,ha0,hi0,ha1,hi1,hty0,he,hr,c1,CL,LTN]
 exact hQ0 v3 rfl  _ _ _ ty0 (by first | exact hty0 | exact Or.inr rfl | assumption | simp) (by first | rfl | (simp only [TT,Ic.t,ci,reduceEqDiff,reduceIte,reduceAdd,reduceMul,reduceLT,reduceLeDiff,reduceSub,reduceCtorEq,reduceEq,reduceNe,reduceToNat,Int.reduceLT,reduceLE,reduceNeg,hl,ha0,hi0,ha1,hi1,hty0,c1,CL,LTN])) (by first | rfl | (simp only [TT,Ic.t,ci,reduceEqDiff,reduceIte,reduceAdd,reduceMul,reduceLT,reduceLeDiff,reduceSub,reduceCtorEq,reduceEq,reduceNe,reduceToNat,Int.reduceLT,reduceLE,reduceNeg,hl,ha0,hi0,ha1,hi1,hty0,c1,CL,LTN])) (by first | rfl | (simp only [TT,Ic.t,ci,reduceEqDiff,reduceIte,reduceAdd,reduceMul,reduceLT,reduceLeDiff,reduceSub,reduceCtorEq,reduceEq,reduceNe,reduceToNat,Int.reduceLT,reduceLE,reduceNeg,hl,ha0,hi0,ha1,hi1,hty0,c1,CL,LTN])) (by first | rfl | (simp only [TT,Ic.t,ci,reduceEqDiff,reduceIte,reduceAdd,reduceMul,reduceLT,reduceLeDiff,reduceSub,reduceCtorEq,reduceEq,reduceNe,reduceToNat,Int.reduceLT,reduceLE,reduceNeg,hl,ha0,hi0,ha1,hi1,hty0,c1,CL,LTN])) (by first | exact jf (Nat.le_refl _) | (simp only [TT,Ic.t,ci,reduceEqDiff,reduceIte,reduceAdd,reduceMul,reduceLT,reduceLeDiff,reduceSub,reduceCtorEq,reduceEq,reduceNe,reduceToNat,Int.reduceLT,reduceLE,reduceNeg,hl,ha0,hi0,ha1,hi1,hty0,c1,CL,LTN]))
def d4 (v0 : ac) (v1 : Int) (v2 : (List ByteArray)) (v4 : (List aa)) (v5 : Int) (v3 : (List dq)) (v6 : Int) : Option (LS ((List dq) × Int) (LX ((List dq)) (Bool))) :=
 if v6 < v5 then
  ixL v4 v6 >>= fun y2 =>
  zc (⟨y2.From,y2.To,y2.Ledger,y2.Asset,y2.Amount⟩ : aa) v1 >>= fun y4 =>
  if y4 = true then
   if (v3.length + 1) * 16 ≤ 140737488355328 then
    some (.nx ((v3 ++ [(⟨y2.From,y2.To⟩ : dq)]),(IntKind.i64.wrap (v6 + (1 : Int)))))
   else
    none
  else
  some (.dn (.rt false))
 else
 some (.dn (.ex v3))
def jn (v0 : ac) (v1 : Int) (v2 : (List ByteArray)) (v4 : (List aa)) (v5 : Int) (v3 : (List dq)) (v6 : Int) : Option (LX ((List dq)) (Bool)) := qb (fun st => d4 v0 v1 v2 v4 v5 st.1 st.2) (v3,v6)
theorem zchm (v0 : ac) (v1 : Int) (v2 : (List ByteArray)) (v4 : (List aa)) (v5 : Int) (v3 : (List dq)) (v6 : Int) : jn v0 v1 v2 v4 v5 v3 v6 = d4 v0 v1 v2 v4 v5 v3 v6 >>= LS.go (fun st => jn v0 v1 v2 v4 v5 st.1 st.2) := ig (fun st => d4 v0 v1 v2 v4 v5 st.1 st.2) (v3,v6)
def qt (v0 : ac) (v1 : Int) (v2 : (List ByteArray)) (v4 : (List aa)) (v5 : Int) (v3 : (List dq)) (v6 : Int) (r : LX ((List dq)) (Bool)) : Prop := ∀ (τ : TH) (o0 : Nat) (o1 : Nat) (n0 : Nat) (ty0 : TypeId) (hnn0 : n0 = v2.length) (hty0 : n0 = 0 ∨ ty0 = eu) (n1 : Nat) (ty1 : TypeId) (hnn1 : n1 = v3.length) (hty1 : n1 = 0 ∨ ty1 = nr) (hl : τ.lock ≤ τ.next) (ha0 : τ.at o0 = some ⟨a9,[.str v0.ID,.sl (List.map af.tv v0.Parties),.sl (List.map aa.tv v0.Arcs),.sl (List.map (TV.int .i64) v0.Leaders),.sl (List.map TV.str v0.Locks),.int .i64 v0.Start,.int .i64 v0.Delta]⟩) (hi0 : o0 < τ.next) (ha1 : τ.at o1 = some ⟨de,[.int .i64 v1]⟩) (hi1 : o1 < τ.next) (Q : TEx → aq) (hQ0 : ∀ v : (List dq),r = (.ex v) → ∀ (fr : TF) (tk2 : TK) (τ2 : TH),∀ (u0 : TypeId),(v2.length = 0 ∨ u0 = eu) → ∀ (u1 : TypeId),(v.length = 0 ∨ u1 = nr) → lkp fr 1 = .ptr o0 0 → lkp fr 3 = .ptr o1 0 → lkp fr 5 = .sla 0 (List.map TV.str v2) → lkp fr 8 = .sla 1 (List.map dq.tv v) → tk2.take 2 = [some (v2.length,u0),some (v.length,u1)] → τ2.cut τ.next = τ → Q (.exit 2) fr tk2 τ2) (hQ1 : ∀ v : Bool,r = (.rt v) → ∀ (tk2 : TK) (τ2 : TH),τ2.cut τ.next = τ → Q .ret [(2,.bool v)] tk2 τ2) ,tW G (.loop [1,3,5,8,83,84,85] sp) Q [(1,.ptr o0 0),(3,.ptr o1 0),(5,.sla 0 (List.map TV.str v2)),(8,.sla 1 (List.map dq.tv v3)),(83,.sl (List.map aa.tv v4)),(84,.int .i64 v5),(85,.int .i64 v6)] [some (n0,ty0),some (n1,ty1)] τ
theorem zcsb (v0 : ac) (v1 : Int) (v2 : (List ByteArray)) (v4 : (List aa)) (v5 : Int) (v3 : (List dq)) (v6 : Int) (r : LX ((List dq)) (Bool)) (h : jn v0 v1 v2 v4 v5 v3 v6 = some r) : qt v0 v1 v2 v4 v5 v3 v6 r := by
 refine fh (f := fun st => d4 v0 v1 v2 v4 v5 st.1 st.2) (P := fun st r => ∀ (v3 : (List dq)) (v6 : Int),(v3,v6) = st → qt v0 v1 v2 v4 v5 v3 v6 r) ?_ h v3 v6 rfl
 clear h r v6 v3
 intro st o h r ih v3 v6 hst τ o0 o1  n0 ty0 hnn0 hty0 n1 ty1 hnn1 hty1 hl ha0 hi0 ha1 hi1 Q hQ0 hQ1
 subst hst
 have h : d4 v0 v1 v2 v4 v5 v3 v6 = some o := h
 unfold d4 at h
 subst hnn0
 subst hnn1
 refine nv fun LQ hn hr he => ?_
 by_cases c1 : v6 < v5
 · rw [if_pos c1] at h
   obtain ⟨y2,hy2,h⟩ := ob h
   have f3 := bx hy2
   have f3a := (f3.2.2 aa.tv).1
   have f3b := (f3.2.2 aa.tv).2
   try simp only [CL,MC,reduceToNat] at f3 f3a f3b
   obtain ⟨y4,hy4,h⟩ := ob h
   have k5 := zcpe (⟨y2.From,y2.To,y2.Ledger,y2.Asset,y2.Amount⟩ : aa) v1 _ hy4
   try simp only [CL,MC,reduceToNat] at k5
   by_cases c6 : y4 = true
   · rw [if_pos c6] at h
     obtain ⟨c7,h⟩ := ifS h
     have f8 : 1 ≤ maxLen := by unfold maxLen; omega
     have f9 : v3.length + 1 ≤ maxLen := by unfold maxLen; omega
     have f10 : ((List.map dq.tv v3).all fun e => e.cells.length == 2) = true := zbbh (fun _ => rfl) _
     have f11 : List.map dq.tv v3 ++ List.map dq.tv [(⟨y2.From,y2.To⟩ : dq)] = List.map dq.tv (v3 ++ [(⟨y2.From,y2.To⟩ : dq)]) := zbjb _ _
     try simp only [CL,List.map_cons,List.map_nil] at f11
     injection h with h; subst h
     have ih := ih (v3 ++ [(⟨y2.From,y2.To⟩ : dq)]) (IntKind.i64.wrap (v6 + (1 : Int))) rfl
     unfold qt at ih
     simp only [lkp.eq_1,↓cp,jm,jl,jj,ji,List.isEmpty_cons,ee,cw,tSg,tT,tS,tD,pnT,be,gu,pnK,jz,gg,List.filter_cons,List.filter_nil,List.filterMap_cons,List.filterMap_nil,bb,dd,lm,cy,Ins.dsts,Ins.looks,I.ops,o6,pn,List.all_cons,List.all_nil,List.any_cons,List.any_nil,List.contains_cons,List.contains_nil,List.append_nil,List.nil_append,List.cons_append,Option.toList_some,Option.toList_none,Option.isSome_some,Option.isSome_none,Bool.and_true,Bool.true_and,Bool.and_false,Bool.false_and,Bool.or_false,Bool.false_or,Bool.or_true,Bool.true_or,Bool.not_false,Bool.not_true,and_true,true_and,and_false,false_and,Nat.reduceBEq,bne_iff_ne,sp,b7,TT,Ic.t,ci,reduceEqDiff,reduceIte,reduceAdd,reduceMul,reduceLT,reduceLeDiff,reduceSub,reduceCtorEq,reduceEq,reduceNe,reduceToNat,Int.reduceLT,reduceLE,reduceNeg,hl,ha0,hi0,ha1,hi1,hty0,hty1,c1,f3.1,f3.2.1,f3a,f3b,k5,c6,c7,f8,f9,f10,f11,CL,LTN]
     rw [hn]
     simp only [TT,Ic.t,ci,reduceEqDiff,reduceIte,reduceAdd,reduceMul,reduceLT,reduceLeDiff,reduceSub,reduceCtorEq,reduceEq,reduceNe,reduceToNat,Int.reduceLT,reduceLE,reduceNeg,hl,ha0,hi0,ha1,hi1,hty0,hty1,c1,f3.1,f3.2.1,f3a,f3b,k5,c6,c7,f8,f9,f10,f11,CL,LTN]
     exact ih  τ o0 o1  _ ty0 (by first | rfl | simp [ar]) (by first | exact hty0 | exact Or.inr rfl | assumption | simp) (v3.length + 1) nr (by first | rfl | simp [ar]) (by first | exact hty1 | exact Or.inr rfl | assumption | simp) (by first | assumption | (simp only [ag,ah]; assumption)) (by simp only [TT,Ic.t,ci,reduceEqDiff,reduceIte,reduceAdd,reduceMul,reduceLT,reduceLeDiff,reduceSub,reduceCtorEq,reduceEq,reduceNe,reduceToNat,Int.reduceLT,reduceLE,reduceNeg,hl,ha0,hi0,ha1,hi1,hty0,hty1,c1,f3.1,f3.2.1,f3a,f3b,k5,c6,c7,f8,f9,f10,f11,CL,LTN]) (by first | assumption | (simp only [ag,ah]; assumption)) (by simp only [TT,Ic.t,ci,reduceEqDiff,reduceIte,reduceAdd,reduceMul,reduceLT,reduceLeDiff,reduceSub,reduceCtorEq,reduceEq,reduceNe,reduceToNat,Int.reduceLT,reduceLE,reduceNeg,hl,ha0,hi0,ha1,hi1,hty0,hty1,c1,f3.1,f3.2.1,f3a,f3b,k5,c6,c7,f8,f9,f10,f11,CL,LTN]) (by first | assumption | (simp only [ag,ah]; assumption)) Q hQ0 hQ1
   rw [if_neg c6] at h
   have c6 := Bool.eq_false_iff.2 c6
   injection h with h; subst h
   obtain rfl : _ = r := ih
   simp only [lkp.eq_1,↓cp,jm,jl,jj,ji,List.isEmpty_cons,ee,cw,tSg,tT,tS,tD,pnT,be,gu,pnK,jz,gg,List.filter_cons,List.filter_nil,List.filterMap_cons,List.filterMap_nil,bb,dd,lm,cy,Ins.dsts,Ins.looks,I.ops,o6,pn,List.all_cons,List.all_nil,List.any_cons,List.any_nil,List.contains_cons,List.contains_nil,List.append_nil,List.nil_append,List.cons_append,Option.toList_some,Option.toList_none,Option.isSome_some,Option.isSome_none,Bool.and_true,Bool.true_and,Bool.and_false,Bool.false_and,Bool.or_false,Bool.false_or,Bool.or_true,Bool.true_or,Bool.not_false,Bool.not_true,and_true,true_and,and_false,false_and,Nat.reduceBEq,bne_iff_ne,sp,b7,TT,Ic.t,ci,reduceEqDiff,reduceIte,reduceAdd,reduceMul,reduceLT,reduceLeDiff,reduceSub,reduceCtorEq,reduceEq,reduceNe,reduceToNat,Int.reduceLT,reduceLE,reduceNeg,hl,ha0,hi0,ha1,hi1,hty0,hty1,he,hr,c1,f3.1,f3.2.1,f3a,f3b,k5,c6,CL,LTN]
   exact hQ1 false rfl  _ _  (by first | exact jf (Nat.le_refl _) | (simp only [TT,Ic.t,ci,reduceEqDiff,reduceIte,reduceAdd,reduceMul,reduceLT,reduceLeDiff,reduceSub,reduceCtorEq,reduceEq,reduceNe,reduceToNat,Int.reduceLT,reduceLE,reduceNeg,hl,ha0,hi0,ha1,hi1,hty0,hty1,c1,f3.1,f3.2.1,f3a,f3b,k5,c6,CL,LTN]))
 rw [if_neg c1] at h
 injection h with h; subst h
 obtain rfl : _ = r := ih
 simp only [lkp.eq_1,↓cp,jm,jl,jj,ji,List.isEmpty_cons,ee,cw,tSg,tT,tS,tD,pnT,be,gu,pnK,jz,gg,List.filter_cons,List.filter_nil,List.filterMap_cons,List.filterMap_nil,bb,dd,lm,cy,Ins.dsts,Ins.looks,I.ops,o6,pn,List.all_cons,List.all_nil,List.any_cons,List.any_nil,List.contains_cons,List.contains_nil,List.append_nil,List.nil_append,List.cons_append,Option.toList_some,Option.toList_none,Option.isSome_some,Option.isSome_none,Bool.and_true,Bool.true_and,Bool.and_false,Bool.false_and,Bool.or_false,Bool.false_or,Bool.or_true,Bool.true_or,Bool.not_false,Bool.not_true,and_true,true_and,and_false,false_and,Nat.reduceBEq,bne_iff_ne,sp,b7,TT,Ic.t,ci,reduceEqDiff,reduceIte,reduceAdd,reduceMul,reduceLT,reduceLeDiff,reduceSub,reduceCtorEq,reduceEq,reduceNe,reduceToNat,Int.reduceLT,reduceLE,reduceNeg,hl,ha0,hi0,ha1,hi1,hty0,hty1,he,hr,c1,CL,LTN]
 exact hQ0 v3 rfl  _ _ _ ty0 (by first | exact hty0 | exact Or.inr rfl | assumption | simp) ty1 (by first | exact hty1 | exact Or.inr rfl | assumption | simp) (by first | rfl | (simp only [TT,Ic.t,ci,reduceEqDiff,reduceIte,reduceAdd,reduceMul,reduceLT,reduceLeDiff,reduceSub,reduceCtorEq,reduceEq,reduceNe,reduceToNat,Int.reduceLT,reduceLE,reduceNeg,hl,ha0,hi0,ha1,hi1,hty0,hty1,c1,CL,LTN])) (by first | rfl | (simp only [TT,Ic.t,ci,reduceEqDiff,reduceIte,reduceAdd,reduceMul,reduceLT,reduceLeDiff,reduceSub,reduceCtorEq,reduceEq,reduceNe,reduceToNat,Int.reduceLT,reduceLE,reduceNeg,hl,ha0,hi0,ha1,hi1,hty0,hty1,c1,CL,LTN])) (by first | rfl | (simp only [TT,Ic.t,ci,reduceEqDiff,reduceIte,reduceAdd,reduceMul,reduceLT,reduceLeDiff,reduceSub,reduceCtorEq,reduceEq,reduceNe,reduceToNat,Int.reduceLT,reduceLE,reduceNeg,hl,ha0,hi0,ha1,hi1,hty0,hty1,c1,CL,LTN])) (by first | rfl | (simp only [TT,Ic.t,ci,reduceEqDiff,reduceIte,reduceAdd,reduceMul,reduceLT,reduceLeDiff,reduceSub,reduceCtorEq,reduceEq,reduceNe,reduceToNat,Int.reduceLT,reduceLE,reduceNeg,hl,ha0,hi0,ha1,hi1,hty0,hty1,c1,CL,LTN])) (by first | rfl | (simp only [TT,Ic.t,ci,reduceEqDiff,reduceIte,reduceAdd,reduceMul,reduceLT,reduceLeDiff,reduceSub,reduceCtorEq,reduceEq,reduceNe,reduceToNat,Int.reduceLT,reduceLE,reduceNeg,hl,ha0,hi0,ha1,hi1,hty0,hty1,c1,CL,LTN])) (by first | exact jf (Nat.le_refl _) | (simp only [TT,Ic.t,ci,reduceEqDiff,reduceIte,reduceAdd,reduceMul,reduceLT,reduceLeDiff,reduceSub,reduceCtorEq,reduceEq,reduceNe,reduceToNat,Int.reduceLT,reduceLE,reduceNeg,hl,ha0,hi0,ha1,hi1,hty0,hty1,c1,CL,LTN]))
def kl (p1 : ac) : Option Bool :=
 pu p1.ID >>= fun y1 =>
 if y1 = true then
  lq ((p1.Parties.length : Nat) : Int) (2 : Int) (6 : Int) >>= fun y4 =>
  if y4 = true then
   lq ((p1.Leaders.length : Nat) : Int) (1 : Int) (3 : Int) >>= fun y7 =>
   if y7 = true then
    lq ((p1.Arcs.length : Nat) : Int) (1 : Int) (12 : Int) >>= fun y10 =>
    if y10 = true then
     pt p1.Locks ((p1.Leaders.length : Nat) : Int) (32 : Int) >>= fun y13 =>
     if y13 = true then
      lq p1.Start (0 : Int) (1099511627776 : Int) >>= fun y16 =>
      if y16 = true then
       lq p1.Delta (1 : Int) (1048576 : Int) >>= fun y19 =>
       if y19 = true then
        lu p1 ((p1.Parties.length : Nat) : Int) ((p1.Leaders.length : Nat) : Int) p1.Parties ((p1.Parties.length : Nat) : Int) [] (0 : Int) >>= fun y22 =>
        match y22 with
        | .ex w23 =>
         jn p1 ((p1.Parties.length : Nat) : Int) w23 p1.Arcs ((p1.Arcs.length : Nat) : Int) [] (0 : Int) >>= fun y27 =>
         match y27 with
         | .ex w28 =>
          mi w23 >>= fun y32 =>
          if y32 = true then
           qr w28 >>= fun y35 =>
           if y35 = true then
            vj p1.Leaders >>= fun y38 =>
            if y38 = true then
             da p1.Leaders ((p1.Parties.length : Nat) : Int) >>= fun y41 =>
             some (!y41)
            else
            some false
           else
           some false
          else
          some false
         | .rt w30 =>
          some w30
        | .rt w25 =>
         some w25
       else
       some false
      else
      some false
     else
     some false
    else
    some false
   else
   some false
  else
  some false
 else
 some false
theorem zcej (p1 : ac) (r : Bool) (h : kl p1 = some r) (τ : TH) (hl : τ.lock ≤ τ.next) : Ru G mq [.agg [.str p1.ID,.sl (List.map af.tv p1.Parties),.sl (List.map aa.tv p1.Arcs),.sl (List.map (TV.int .i64) p1.Leaders),.sl (List.map TV.str p1.Locks),.int .i64 p1.Start,.int .i64 p1.Delta]] τ (.bool r) τ := by
 refine li fun K hK => ?_
 rw [ce zcue (Nat.le_of_ble_eq_true rfl)]
 unfold kl at h
 obtain ⟨y1,hy1,h⟩ := ob h
 have k2 := zb1e p1.ID _ hy1
 try simp only [CL,MC,reduceToNat] at k2
 by_cases c3 : y1 = true
 · rw [if_pos c3] at h
   obtain ⟨y4,hy4,h⟩ := ob h
   have k5 := ms ((p1.Parties.length : Nat) : Int) (2 : Int) (6 : Int) _ hy4
   try simp only [CL,MC,reduceToNat] at k5
   by_cases c6 : y4 = true
   · rw [if_pos c6] at h
     obtain ⟨y7,hy7,h⟩ := ob h
     have k8 := ms ((p1.Leaders.length : Nat) : Int) (1 : Int) (3 : Int) _ hy7
     try simp only [CL,MC,reduceToNat] at k8
     by_cases c9 : y7 = true
     · rw [if_pos c9] at h
       obtain ⟨y10,hy10,h⟩ := ob h
       have k11 := ms ((p1.Arcs.length : Nat) : Int) (1 : Int) (12 : Int) _ hy10
       try simp only [CL,MC,reduceToNat] at k11
       by_cases c12 : y10 = true
       · rw [if_pos c12] at h
         obtain ⟨y13,hy13,h⟩ := ob h
         have k14 := zcek p1.Locks ((p1.Leaders.length : Nat) : Int) (32 : Int) _ hy13
         try simp only [CL,MC,reduceToNat] at k14
         by_cases c15 : y13 = true
         · rw [if_pos c15] at h
           obtain ⟨y16,hy16,h⟩ := ob h
           have k17 := ms p1.Start (0 : Int) (1099511627776 : Int) _ hy16
           try simp only [CL,MC,reduceToNat] at k17
           by_cases c18 : y16 = true
           · rw [if_pos c18] at h
             obtain ⟨y19,hy19,h⟩ := ob h
             have k20 := ms p1.Delta (1 : Int) (1048576 : Int) _ hy19
             try simp only [CL,MC,reduceToNat] at k20
             by_cases c21 : y19 = true
             · rw [if_pos c21] at h
               obtain ⟨y22,hy22,h⟩ := ob h
               simp only [lkp.eq_1,↓cp,jm,jl,jj,ji,List.isEmpty_cons,ee,cw,tSg,tT,tS,tD,pnT,be,gu,pnK,jz,gg,List.filter_cons,List.filter_nil,List.filterMap_cons,List.filterMap_nil,bb,dd,lm,cy,Ins.dsts,Ins.looks,I.ops,o6,pn,List.all_cons,List.all_nil,List.any_cons,List.any_nil,List.contains_cons,List.contains_nil,List.append_nil,List.nil_append,List.cons_append,Option.toList_some,Option.toList_none,Option.isSome_some,Option.isSome_none,Bool.and_true,Bool.true_and,Bool.and_false,Bool.false_and,Bool.or_false,Bool.false_or,Bool.or_true,Bool.true_or,Bool.not_false,Bool.not_true,and_true,true_and,and_false,false_and,Nat.reduceBEq,bne_iff_ne,b7,TT,Ic.t,ci,reduceEqDiff,reduceIte,reduceAdd,reduceLT,reduceCtorEq,reduceToNat,hl,k2,c3,k5,c6,k8,c9,k11,c12,k14,c15,k17,c18,k20,c21,CL,LTN]
               have Sy22 := zcsa p1 ((p1.Parties.length : Nat) : Int) ((p1.Leaders.length : Nat) : Int) p1.Parties ((p1.Parties.length : Nat) : Int) [] (0 : Int) y22 hy22
               unfold qu at Sy22
               refine Sy22 _ τ.next (τ.next + 1) 0 0 (by first | rfl | simp [ar]) (by first | exact Or.inl rfl | exact Or.inr rfl | assumption | simp) (by first | assumption | omega | (simp only [ag,am,ah,az]; omega)) (by simp only [TT,Ic.t,ci,reduceEqDiff,reduceIte,reduceAdd,reduceLT,reduceCtorEq,reduceToNat,hl,k2,c3,k5,c6,k8,c9,k11,c12,k14,c15,k17,c18,k20,c21,CL,LTN]) (by first | assumption | omega | (simp only [ag,am,ah,az]; omega)) (by simp only [TT,Ic.t,ci,reduceEqDiff,reduceIte,reduceAdd,reduceLT,reduceCtorEq,reduceToNat,hl,k2,c3,k5,c6,k8,c9,k11,c12,k14,c15,k17,c18,k20,c21,CL,LTN]) (by first | assumption | omega | (simp only [ag,am,ah,az]; omega)) _ ?_ ?_
               · intro w23 e frq24 tkq24 τq24 u0q24 uh0q24 g1q24 g3q24 g5q24 htq24 hcq24
                 subst e
                 simp only at h
                 have hcq24 := eq (n := τ.next + 2) hcq24 (by first | omega | (simp only [ag,am]; omega))
                 try simp only [List.take_succ_cons,List.take_zero,List.take_nil,CL] at htq24
                 try simp only [TT,Ic.t,ci,reduceEqDiff,reduceIte,reduceAdd,reduceLT,reduceCtorEq,reduceToNat,hl,k2,c3,k5,c6,k8,c9,k11,c12,k14,c15,k17,c18,k20,c21,CL,LTN] at hcq24
                 obtain ⟨y27,hy27,h⟩ := ob h
                 simp only [lkp.eq_1,↓cp,jm,jl,jj,ji,List.isEmpty_cons,ee,cw,tSg,tT,tS,tD,pnT,be,gu,pnK,jz,gg,List.filter_cons,List.filter_nil,List.filterMap_cons,List.filterMap_nil,bb,dd,lm,cy,Ins.dsts,Ins.looks,I.ops,o6,pn,List.all_cons,List.all_nil,List.any_cons,List.any_nil,List.contains_cons,List.contains_nil,List.append_nil,List.nil_append,List.cons_append,Option.toList_some,Option.toList_none,Option.isSome_some,Option.isSome_none,Bool.and_true,Bool.true_and,Bool.and_false,Bool.false_and,Bool.or_false,Bool.false_or,Bool.or_true,Bool.true_or,Bool.not_false,Bool.not_true,and_true,true_and,and_false,false_and,Nat.reduceBEq,bne_iff_ne,b7,TT,Ic.t,ci,reduceEqDiff,reduceIte,reduceAdd,reduceLT,reduceCtorEq,reduceToNat,hl,k2,c3,k5,c6,k8,c9,k11,c12,k14,c15,k17,c18,k20,c21,uh0q24,g1q24,g3q24,g5q24,htq24,hcq24,CL,LTN]
                 have Sy27 := zcsb p1 ((p1.Parties.length : Nat) : Int) w23 p1.Arcs ((p1.Arcs.length : Nat) : Int) [] (0 : Int) y27 hy27
                 unfold qt at Sy27
                 refine Sy27 _ τ.next (τ.next + 1) w23.length u0q24 (by first | rfl | simp [ar]) (by first | exact Or.inl rfl | exact Or.inr rfl | assumption | simp) 0 0 (by first | rfl | simp [ar]) (by first | exact Or.inl rfl | exact Or.inr rfl | assumption | simp) (by first | assumption | omega | (simp only [ag,am,ah,az]; omega)) (by simp only [TT,Ic.t,ci,reduceEqDiff,reduceIte,reduceAdd,reduceLT,reduceCtorEq,reduceToNat,hl,k2,c3,k5,c6,k8,c9,k11,c12,k14,c15,k17,c18,k20,c21,uh0q24,g1q24,g3q24,g5q24,htq24,hcq24,CL,LTN]) (by first | assumption | omega | (simp only [ag,am,ah,az]; omega)) (by simp only [TT,Ic.t,ci,reduceEqDiff,reduceIte,reduceAdd,reduceLT,reduceCtorEq,reduceToNat,hl,k2,c3,k5,c6,k8,c9,k11,c12,k14,c15,k17,c18,k20,c21,uh0q24,g1q24,g3q24,g5q24,htq24,hcq24,CL,LTN]) (by first | assumption | omega | (simp only [ag,am,ah,az]; omega)) _ ?_ ?_
                 · intro w28 e frq29 tkq29 τq29 u0q29 uh0q29 u1q29 uh1q29 g1q29 g3q29 g5q29 g8q29 htq29 hcq29
                   subst e
                   simp only at h
                   have hcq29 := eq (n := τ.next + 2) hcq29 (by first | omega | (simp only [ag,am]; omega))
                   try simp only [List.take_succ_cons,List.take_zero,List.take_nil,CL] at htq29
                   try simp only [TT,Ic.t,ci,reduceEqDiff,reduceIte,reduceAdd,reduceLT,reduceCtorEq,reduceToNat,hl,k2,c3,k5,c6,k8,c9,k11,c12,k14,c15,k17,c18,k20,c21,uh0q24,g1q24,g3q24,g5q24,htq24,hcq24,CL,LTN] at hcq29
                   obtain ⟨y32,hy32,h⟩ := ob h
                   have k33 := zcsk w23 _ hy32
                   try simp only [CL,MC,reduceToNat] at k33
                   by_cases c34 : y32 = true
                   · rw [if_pos c34] at h
                     obtain ⟨y35,hy35,h⟩ := ob h
                     have k36 := zcsi w28 _ hy35
                     try simp only [CL,MC,reduceToNat] at k36
                     by_cases c37 : y35 = true
                     · rw [if_pos c37] at h
                       obtain ⟨y38,hy38,h⟩ := ob h
                       have k39 := zcsc p1.Leaders _ hy38
                       try simp only [CL,MC,reduceToNat] at k39
                       by_cases c40 : y38 = true
                       · rw [if_pos c40] at h
                         obtain ⟨y41,hy41,h⟩ := ob h
                         have k42 := wb p1.Leaders ((p1.Parties.length : Nat) : Int) _ hy41
                         try simp only [CL,MC,reduceToNat] at k42
                         injection h with h; subst h
                         simp only [lkp.eq_1,↓cp,jm,jl,jj,ji,List.isEmpty_cons,ee,cw,tSg,tT,tS,tD,pnT,be,gu,pnK,jz,gg,List.filter_cons,List.filter_nil,List.filterMap_cons,List.filterMap_nil,bb,dd,lm,cy,Ins.dsts,Ins.looks,I.ops,o6,pn,List.all_cons,List.all_nil,List.any_cons,List.any_nil,List.contains_cons,List.contains_nil,List.append_nil,List.nil_append,List.cons_append,Option.toList_some,Option.toList_none,Option.isSome_some,Option.isSome_none,Bool.and_true,Bool.true_and,Bool.and_false,Bool.false_and,Bool.or_false,Bool.false_or,Bool.or_true,Bool.true_or,Bool.not_false,Bool.not_true,and_true,true_and,and_false,false_and,Nat.reduceBEq,bne_iff_ne,b7,TT,Ic.t,ci,reduceEqDiff,reduceIte,reduceAdd,reduceLT,reduceCtorEq,reduceToNat,hl,k2,c3,k5,c6,k8,c9,k11,c12,k14,c15,k17,c18,k20,c21,uh0q24,g1q24,g3q24,g5q24,htq24,hcq24,uh0q29,uh1q29,g1q29,g3q29,g5q29,g8q29,htq29,hcq29,k33,c34,k36,c37,k39,c40,k42,CL,LTN]
                         first | exact hK | (simp only [hl,k2,c3,k5,c6,k8,c9,k11,c12,k14,c15,k17,c18,k20,c21,uh0q24,g1q24,g3q24,g5q24,htq24,hcq24,uh0q29,uh1q29,g1q29,g3q29,g5q29,g8q29,htq29,hcq29,k33,c34,k36,c37,k39,c40,k42,CL] at hK; exact hK)
                       rw [if_neg c40] at h
                       have c40 := Bool.eq_false_iff.2 c40
                       injection h with h; subst h
                       simp only [lkp.eq_1,↓cp,jm,jl,jj,ji,List.isEmpty_cons,ee,cw,tSg,tT,tS,tD,pnT,be,gu,pnK,jz,gg,List.filter_cons,List.filter_nil,List.filterMap_cons,List.filterMap_nil,bb,dd,lm,cy,Ins.dsts,Ins.looks,I.ops,o6,pn,List.all_cons,List.all_nil,List.any_cons,List.any_nil,List.contains_cons,List.contains_nil,List.append_nil,List.nil_append,List.cons_append,Option.toList_some,Option.toList_none,Option.isSome_some,Option.isSome_none,Bool.and_true,Bool.true_and,Bool.and_false,Bool.false_and,Bool.or_false,Bool.false_or,Bool.or_true,Bool.true_or,Bool.not_false,Bool.not_true,and_true,true_and,and_false,false_and,Nat.reduceBEq,bne_iff_ne,b7,TT,Ic.t,ci,reduceEqDiff,reduceIte,reduceAdd,reduceLT,reduceCtorEq,reduceToNat,hl,k2,c3,k5,c6,k8,c9,k11,c12,k14,c15,k17,c18,k20,c21,uh0q24,g1q24,g3q24,g5q24,htq24,hcq24,uh0q29,uh1q29,g1q29,g3q29,g5q29,g8q29,htq29,hcq29,k33,c34,k36,c37,k39,c40,CL,LTN]
                       first | exact hK | (simp only [hl,k2,c3,k5,c6,k8,c9,k11,c12,k14,c15,k17,c18,k20,c21,uh0q24,g1q24,g3q24,g5q24,htq24,hcq24,uh0q29,uh1q29,g1q29,g3q29,g5q29,g8q29,htq29,hcq29,k33,c34,k36,c37,k39,c40,CL] at hK; exact hK)
                     rw [if_neg c37] at h
                     have c37 := Bool.eq_false_iff.2 c37
                     injection h with h; subst h
                     simp only [lkp.eq_1,↓cp,jm,jl,jj,ji,List.isEmpty_cons,ee,cw,tSg,tT,tS,tD,pnT,be,gu,pnK,jz,gg,List.filter_cons,List.filter_nil,List.filterMap_cons,List.filterMap_nil,bb,dd,lm,cy,Ins.dsts,Ins.looks,I.ops,o6,pn,List.all_cons,List.all_nil,List.any_cons,List.any_nil,List.contains_cons,List.contains_nil,List.append_nil,List.nil_append,List.cons_append,Option.toList_some,Option.toList_none,Option.isSome_some,Option.isSome_none,Bool.and_true,Bool.true_and,Bool.and_false,Bool.false_and,Bool.or_false,Bool.false_or,Bool.or_true,Bool.true_or,Bool.not_false,Bool.not_true,and_true,true_and,and_false,false_and,Nat.reduceBEq,bne_iff_ne,b7,TT,Ic.t,ci,reduceEqDiff,reduceIte,reduceAdd,reduceLT,reduceCtorEq,reduceToNat,hl,k2,c3,k5,c6,k8,c9,k11,c12,k14,c15,k17,c18,k20,c21,uh0q24,g1q24,g3q24,g5q24,htq24,hcq24,uh0q29,uh1q29,g1q29,g3q29,g5q29,g8q29,htq29,hcq29,k33,c34,k36,c37,CL,LTN]
                     first | exact hK | (simp only [hl,k2,c3,k5,c6,k8,c9,k11,c12,k14,c15,k17,c18,k20,c21,uh0q24,g1q24,g3q24,g5q24,htq24,hcq24,uh0q29,uh1q29,g1q29,g3q29,g5q29,g8q29,htq29,hcq29,k33,c34,k36,c37,CL] at hK; exact hK)
                   rw [if_neg c34] at h
                   have c34 := Bool.eq_false_iff.2 c34
                   injection h with h; subst h
                   simp only [lkp.eq_1,↓cp,jm,jl,jj,ji,List.isEmpty_cons,ee,cw,tSg,tT,tS,tD,pnT,be,gu,pnK,jz,gg,List.filter_cons,List.filter_nil,List.filterMap_cons,List.filterMap_nil,bb,dd,lm,cy,Ins.dsts,Ins.looks,I.ops,o6,pn,List.all_cons,List.all_nil,List.any_cons,List.any_nil,List.contains_cons,List.contains_nil,List.append_nil,List.nil_append,List.cons_append,Option.toList_some,Option.toList_none,Option.isSome_some,Option.isSome_none,Bool.and_true,Bool.true_and,Bool.and_false,Bool.false_and,Bool.or_false,Bool.false_or,Bool.or_true,Bool.true_or,Bool.not_false,Bool.not_true,and_true,true_and,and_false,false_and,Nat.reduceBEq,bne_iff_ne,b7,TT,Ic.t,ci,reduceEqDiff,reduceIte,reduceAdd,reduceLT,reduceCtorEq,reduceToNat,hl,k2,c3,k5,c6,k8,c9,k11,c12,k14,c15,k17,c18,k20,c21,uh0q24,g1q24,g3q24,g5q24,htq24,hcq24,uh0q29,uh1q29,g1q29,g3q29,g5q29,g8q29,htq29,hcq29,k33,c34,CL,LTN]
                   first | exact hK | (simp only [hl,k2,c3,k5,c6,k8,c9,k11,c12,k14,c15,k17,c18,k20,c21,uh0q24,g1q24,g3q24,g5q24,htq24,hcq24,uh0q29,uh1q29,g1q29,g3q29,g5q29,g8q29,htq29,hcq29,k33,c34,CL] at hK; exact hK)
                 intro w30 e tkq31 τq31 hcq31
                 subst e
                 simp only at h
                 have hcq31 := eq (n := τ.next) hcq31 (by first | omega | (simp only [ag,am]; omega))
                 try simp only [TT,Ic.t,ci,reduceEqDiff,reduceIte,reduceAdd,reduceLT,reduceCtorEq,reduceToNat,hl,k2,c3,k5,c6,k8,c9,k11,c12,k14,c15,k17,c18,k20,c21,uh0q24,g1q24,g3q24,g5q24,htq24,hcq24,CL,LTN] at hcq31
                 injection h with h; subst h
                 simp only [lkp.eq_1,↓cp,jm,jl,jj,ji,List.isEmpty_cons,ee,cw,tSg,tT,tS,tD,pnT,be,gu,pnK,jz,gg,List.filter_cons,List.filter_nil,List.filterMap_cons,List.filterMap_nil,bb,dd,lm,cy,Ins.dsts,Ins.looks,I.ops,o6,pn,List.all_cons,List.all_nil,List.any_cons,List.any_nil,List.contains_cons,List.contains_nil,List.append_nil,List.nil_append,List.cons_append,Option.toList_some,Option.toList_none,Option.isSome_some,Option.isSome_none,Bool.and_true,Bool.true_and,Bool.and_false,Bool.false_and,Bool.or_false,Bool.false_or,Bool.or_true,Bool.true_or,Bool.not_false,Bool.not_true,and_true,true_and,and_false,false_and,Nat.reduceBEq,bne_iff_ne,b7,TT,Ic.t,ci,reduceEqDiff,reduceIte,reduceAdd,reduceLT,reduceCtorEq,reduceToNat,hl,k2,c3,k5,c6,k8,c9,k11,c12,k14,c15,k17,c18,k20,c21,uh0q24,g1q24,g3q24,g5q24,htq24,hcq24,hcq31,CL,LTN]
                 first | exact hK | (simp only [hl,k2,c3,k5,c6,k8,c9,k11,c12,k14,c15,k17,c18,k20,c21,uh0q24,g1q24,g3q24,g5q24,htq24,hcq24,hcq31,CL] at hK; exact hK)
               intro w25 e tkq26 τq26 hcq26
               subst e
               simp only at h
               have hcq26 := eq (n := τ.next) hcq26 (by first | omega | (simp only [ag,am]; omega))
               try simp only [TT,Ic.t,ci,reduceEqDiff,reduceIte,reduceAdd,reduceLT,reduceCtorEq,reduceToNat,hl,k2,c3,k5,c6,k8,c9,k11,c12,k14,c15,k17,c18,k20,c21,CL,LTN] at hcq26
               injection h with h; subst h
               simp only [lkp.eq_1,↓cp,jm,jl,jj,ji,List.isEmpty_cons,ee,cw,tSg,tT,tS,tD,pnT,be,gu,pnK,jz,gg,List.filter_cons,List.filter_nil,List.filterMap_cons,List.filterMap_nil,bb,dd,lm,cy,Ins.dsts,Ins.looks,I.ops,o6,pn,List.all_cons,List.all_nil,List.any_cons,List.any_nil,List.contains_cons,List.contains_nil,List.append_nil,List.nil_append,List.cons_append,Option.toList_some,Option.toList_none,Option.isSome_some,Option.isSome_none,Bool.and_true,Bool.true_and,Bool.and_false,Bool.false_and,Bool.or_false,Bool.false_or,Bool.or_true,Bool.true_or,Bool.not_false,Bool.not_true,and_true,true_and,and_false,false_and,Nat.reduceBEq,bne_iff_ne,b7,TT,Ic.t,ci,reduceEqDiff,reduceIte,reduceAdd,reduceLT,reduceCtorEq,reduceToNat,hl,k2,c3,k5,c6,k8,c9,k11,c12,k14,c15,k17,c18,k20,c21,hcq26,CL,LTN]
               first | exact hK | (simp only [hl,k2,c3,k5,c6,k8,c9,k11,c12,k14,c15,k17,c18,k20,c21,hcq26,CL] at hK; exact hK)
             rw [if_neg c21] at h
             have c21 := Bool.eq_false_iff.2 c21
             injection h with h; subst h
             simp only [lkp.eq_1,↓cp,jm,jl,jj,ji,List.isEmpty_cons,ee,cw,tSg,tT,tS,tD,pnT,be,gu,pnK,jz,gg,List.filter_cons,List.filter_nil,List.filterMap_cons,List.filterMap_nil,bb,dd,lm,cy,Ins.dsts,Ins.looks,I.ops,o6,pn,List.all_cons,List.all_nil,List.any_cons,List.any_nil,List.contains_cons,List.contains_nil,List.append_nil,List.nil_append,List.cons_append,Option.toList_some,Option.toList_none,Option.isSome_some,Option.isSome_none,Bool.and_true,Bool.true_and,Bool.and_false,Bool.false_and,Bool.or_false,Bool.false_or,Bool.or_true,Bool.true_or,Bool.not_false,Bool.not_true,and_true,true_and,and_false,false_and,Nat.reduceBEq,bne_iff_ne,b7,TT,Ic.t,ci,reduceEqDiff,reduceIte,reduceAdd,reduceLT,reduceCtorEq,reduceToNat,hl,k2,c3,k5,c6,k8,c9,k11,c12,k14,c15,k17,c18,k20,c21,CL,LTN]
             first | exact hK | (simp only [hl,k2,c3,k5,c6,k8,c9,k11,c12,k14,c15,k17,c18,k20,c21,CL] at hK; exact hK)
           rw [if_neg c18] at h
           have c18 := Bool.eq_false_iff.2 c18
           injection h with h; subst h
           simp only [lkp.eq_1,↓cp,jm,jl,jj,ji,List.isEmpty_cons,ee,cw,tSg,tT,tS,tD,pnT,be,gu,pnK,jz,gg,List.filter_cons,List.filter_nil,List.filterMap_cons,List.filterMap_nil,bb,dd,lm,cy,Ins.dsts,Ins.looks,I.ops,o6,pn,List.all_cons,List.all_nil,List.any_cons,List.any_nil,List.contains_cons,List.contains_nil,List.append_nil,List.nil_append,List.cons_append,Option.toList_some,Option.toList_none,Option.isSome_some,Option.isSome_none,Bool.and_true,Bool.true_and,Bool.and_false,Bool.false_and,Bool.or_false,Bool.false_or,Bool.or_true,Bool.true_or,Bool.not_false,Bool.not_true,and_true,true_and,and_false,false_and,Nat.reduceBEq,bne_iff_ne,b7,TT,Ic.t,ci,reduceEqDiff,reduceIte,reduceAdd,reduceLT,reduceCtorEq,reduceToNat,hl,k2,c3,k5,c6,k8,c9,k11,c12,k14,c15,k17,c18,CL,LTN]
           first | exact hK | (simp only [hl,k2,c3,k5,c6,k8,c9,k11,c12,k14,c15,k17,c18,CL] at hK; exact hK)
         rw [if_neg c15] at h
         have c15 := Bool.eq_false_iff.2 c15
         injection h with h; subst h
         simp only [lkp.eq_1,↓cp,jm,jl,jj,ji,List.isEmpty_cons,ee,cw,tSg,tT,tS,tD,pnT,be,gu,pnK,jz,gg,List.filter_cons,List.filter_nil,List.filterMap_cons,List.filterMap_nil,bb,dd,lm,cy,Ins.dsts,Ins.looks,I.ops,o6,pn,List.all_cons,List.all_nil,List.any_cons,List.any_nil,List.contains_cons,List.contains_nil,List.append_nil,List.nil_append,List.cons_append,Option.toList_some,Option.toList_none,Option.isSome_some,Option.isSome_none,Bool.and_true,Bool.true_and,Bool.and_false,Bool.false_and,Bool.or_false,Bool.false_or,Bool.or_true,Bool.true_or,Bool.not_false,Bool.not_true,and_true,true_and,and_false,false_and,Nat.reduceBEq,bne_iff_ne,b7,TT,Ic.t,ci,reduceEqDiff,reduceIte,reduceAdd,reduceLT,reduceCtorEq,reduceToNat,hl,k2,c3,k5,c6,k8,c9,k11,c12,k14,c15,CL,LTN]
         first | exact hK | (simp only [hl,k2,c3,k5,c6,k8,c9,k11,c12,k14,c15,CL] at hK; exact hK)
       rw [if_neg c12] at h
       have c12 := Bool.eq_false_iff.2 c12
       injection h with h; subst h
       simp only [lkp.eq_1,↓cp,jm,jl,jj,ji,List.isEmpty_cons,ee,cw,tSg,tT,tS,tD,pnT,be,gu,pnK,jz,gg,List.filter_cons,List.filter_nil,List.filterMap_cons,List.filterMap_nil,bb,dd,lm,cy,Ins.dsts,Ins.looks,I.ops,o6,pn,List.all_cons,List.all_nil,List.any_cons,List.any_nil,List.contains_cons,List.contains_nil,List.append_nil,List.nil_append,List.cons_append,Option.toList_some,Option.toList_none,Option.isSome_some,Option.isSome_none,Bool.and_true,Bool.true_and,Bool.and_false,Bool.false_and,Bool.or_false,Bool.false_or,Bool.or_true,Bool.true_or,Bool.not_false,Bool.not_true,and_true,true_and,and_false,false_and,Nat.reduceBEq,bne_iff_ne,b7,TT,Ic.t,ci,reduceEqDiff,reduceIte,reduceAdd,reduceLT,reduceCtorEq,reduceToNat,hl,k2,c3,k5,c6,k8,c9,k11,c12,CL,LTN]
       first | exact hK | (simp only [hl,k2,c3,k5,c6,k8,c9,k11,c12,CL] at hK; exact hK)
     rw [if_neg c9] at h
     have c9 := Bool.eq_false_iff.2 c9
     injection h with h; subst h
     simp only [lkp.eq_1,↓cp,jm,jl,jj,ji,List.isEmpty_cons,ee,cw,tSg,tT,tS,tD,pnT,be,gu,pnK,jz,gg,List.filter_cons,List.filter_nil,List.filterMap_cons,List.filterMap_nil,bb,dd,lm,cy,Ins.dsts,Ins.looks,I.ops,o6,pn,List.all_cons,List.all_nil,List.any_cons,List.any_nil,List.contains_cons,List.contains_nil,List.append_nil,List.nil_append,List.cons_append,Option.toList_some,Option.toList_none,Option.isSome_some,Option.isSome_none,Bool.and_true,Bool.true_and,Bool.and_false,Bool.false_and,Bool.or_false,Bool.false_or,Bool.or_true,Bool.true_or,Bool.not_false,Bool.not_true,and_true,true_and,and_false,false_and,Nat.reduceBEq,bne_iff_ne,b7,TT,Ic.t,ci,reduceEqDiff,reduceIte,reduceAdd,reduceLT,reduceCtorEq,reduceToNat,hl,k2,c3,k5,c6,k8,c9,CL,LTN]
     first | exact hK | (simp only [hl,k2,c3,k5,c6,k8,c9,CL] at hK; exact hK)
   rw [if_neg c6] at h
   have c6 := Bool.eq_false_iff.2 c6
   injection h with h; subst h
   simp only [lkp.eq_1,↓cp,jm,jl,jj,ji,List.isEmpty_cons,ee,cw,tSg,tT,tS,tD,pnT,be,gu,pnK,jz,gg,List.filter_cons,List.filter_nil,List.filterMap_cons,List.filterMap_nil,bb,dd,lm,cy,Ins.dsts,Ins.looks,I.ops,o6,pn,List.all_cons,List.all_nil,List.any_cons,List.any_nil,List.contains_cons,List.contains_nil,List.append_nil,List.nil_append,List.cons_append,Option.toList_some,Option.toList_none,Option.isSome_some,Option.isSome_none,Bool.and_true,Bool.true_and,Bool.and_false,Bool.false_and,Bool.or_false,Bool.false_or,Bool.or_true,Bool.true_or,Bool.not_false,Bool.not_true,and_true,true_and,and_false,false_and,Nat.reduceBEq,bne_iff_ne,b7,TT,Ic.t,ci,reduceEqDiff,reduceIte,reduceAdd,reduceLT,reduceCtorEq,reduceToNat,hl,k2,c3,k5,c6,CL,LTN]
   first | exact hK | (simp only [hl,k2,c3,k5,c6,CL] at hK; exact hK)
 rw [if_neg c3] at h
 have c3 := Bool.eq_false_iff.2 c3
 injection h with h; subst h
 simp only [lkp.eq_1,↓cp,jm,jl,jj,ji,List.isEmpty_cons,ee,cw,tSg,tT,tS,tD,pnT,be,gu,pnK,jz,gg,List.filter_cons,List.filter_nil,List.filterMap_cons,List.filterMap_nil,bb,dd,lm,cy,Ins.dsts,Ins.looks,I.ops,o6,pn,List.all_cons,List.all_nil,List.any_cons,List.any_nil,List.contains_cons,List.contains_nil,List.append_nil,List.nil_append,List.cons_append,Option.toList_some,Option.toList_none,Option.isSome_some,Option.isSome_none,Bool.and_true,Bool.true_and,Bool.and_false,Bool.false_and,Bool.or_false,Bool.false_or,Bool.or_true,Bool.true_or,Bool.not_false,Bool.not_true,and_true,true_and,and_false,false_and,Nat.reduceBEq,bne_iff_ne,b7,TT,Ic.t,ci,reduceEqDiff,reduceIte,reduceAdd,reduceLT,reduceCtorEq,reduceToNat,hl,k2,c3,CL,LTN]
 first | exact hK | (simp only [hl,k2,c3,CL] at hK; exact hK)
theorem sj (p1 : ac) (r : Bool) (h : kl p1 = some r) (lk : Bool) (d : Option Nat) (K : aq) (fr : TF) (tk : TK) (τ : TH) (hl : τ.lock ≤ τ.next) : fi G lk mq [.agg [.str p1.ID,.sl (List.map af.tv p1.Parties),.sl (List.map aa.tv p1.Arcs),.sl (List.map (TV.int .i64) p1.Leaders),.sl (List.map TV.str p1.Locks),.int .i64 p1.Start,.int .i64 p1.Delta]] d K fr tk τ = K (ew fr d (.bool r)) tk τ :=
 aw (zcej p1 r h τ  hl) (zcej p1 r h (τ.locked τ.next)  (Nat.le_refl _) ) (by simp only [TT,Ic.t,ci,reduceEqDiff,reduceIte,reduceAdd,reduceLT,reduceCtorEq,reduceToNat,hl,CL,LTN])
def bc (v0 : (List Int)) (v1 : Int) (v2 : Int) (v3 : Int) : Option (LS (Int) (LX (Unit) (Int))) :=
 if v3 < v2 then
  ixL v0 v3 >>= fun y2 =>
  if v1 = y2 then
   some (.dn (.rt v3))
  else
  some (.nx (IntKind.i64.wrap (v3 + (1 : Int))))
 else
 some (.dn (.ex ()))
def dz (v0 : (List Int)) (v1 : Int) (v2 : Int) (v3 : Int) : Option (LX (Unit) (Int)) := qb (fun st => bc v0 v1 v2 st) v3
theorem pb (v0 : (List Int)) (v1 : Int) (v2 : Int) (v3 : Int) : dz v0 v1 v2 v3 = bc v0 v1 v2 v3 >>= LS.go (fun st => dz v0 v1 v2 st) := ig (fun st => bc v0 v1 v2 st) v3
def ia (v0 : (List Int)) (v1 : Int) (v2 : Int) (v3 : Int) (r : LX (Unit) (Int)) : Prop := ∀ (τ : TH) (hl : τ.lock ≤ τ.next) (Q : TEx → aq) (hQ0 : ∀ v : Unit,r = (.ex v) → ∀ (fr : TF) (tk2 : TK) (τ2 : TH),tk2.take 0 = [] → τ2.cut τ.next = τ → Q (.exit 0) fr tk2 τ2) (hQ1 : ∀ v : Int,r = (.rt v) → ∀ (tk2 : TK) (τ2 : TH),τ2.cut τ.next = τ → Q .ret [(4,.int .i64 v)] tk2 τ2) ,tW G (.loop [0,1,7,8] gr) Q [(0,.sl (List.map (TV.int .i64) v0)),(1,.int .i64 v1),(7,.int .i64 v2),(8,.int .i64 v3)] [] τ
theorem zx (v0 : (List Int)) (v1 : Int) (v2 : Int) (v3 : Int) (r : LX (Unit) (Int)) (h : dz v0 v1 v2 v3 = some r) : ia v0 v1 v2 v3 r := by
 refine fh (f := fun st => bc v0 v1 v2 st) (P := fun st r => ∀ (v3 : Int),v3 = st → ia v0 v1 v2 v3 r) ?_ h v3 rfl
 clear h r v3
 intro st o h r ih v3 hst τ  hl Q hQ0 hQ1
 subst hst
 have h : bc v0 v1 v2 v3 = some o := h
 unfold bc at h
 refine nv fun LQ hn hr he => ?_
 by_cases c1 : v3 < v2
 · rw [if_pos c1] at h
   obtain ⟨y2,hy2,h⟩ := ob h
   have f3 := bx hy2
   have f3a := (f3.2.2 (TV.int .i64)).1
   have f3b := (f3.2.2 (TV.int .i64)).2
   try simp only [CL,MC,reduceToNat] at f3 f3a f3b
   by_cases c4 : v1 = y2
   · rw [if_pos c4] at h
     injection h with h; subst h
     obtain rfl : _ = r := ih
     simp only [gr,fk,TT,Ic.t,ci,reduceEqDiff,reduceIte,reduceAdd,reduceLT,reduceCtorEq,reduceToNat,hl,he,hr,c1,f3.1,f3.2.1,f3a,f3b,eq_true c4,CL,LTN]
     exact hQ1 v3 rfl  _ _  (by first | exact jf (Nat.le_refl _) | (simp only [TT,Ic.t,ci,reduceEqDiff,reduceIte,reduceAdd,reduceLT,reduceCtorEq,reduceToNat,hl,c1,f3.1,f3.2.1,f3a,f3b,eq_true c4,CL,LTN]))
   rw [if_neg c4] at h
   injection h with h; subst h
   have ih := ih (IntKind.i64.wrap (v3 + (1 : Int))) rfl
   unfold ia at ih
   simp only [gr,fk,TT,Ic.t,ci,reduceEqDiff,reduceIte,reduceAdd,reduceLT,reduceCtorEq,reduceToNat,hl,c1,f3.1,f3.2.1,f3a,f3b,c4,CL,LTN]
   rw [hn]
   simp only [TT,Ic.t,ci,reduceEqDiff,reduceIte,reduceAdd,reduceLT,reduceCtorEq,reduceToNat,hl,c1,f3.1,f3.2.1,f3a,f3b,c4,CL,LTN]
   exact ih  τ    (by first | assumption | (simp only [ag,ah]; assumption)) Q hQ0 hQ1
 rw [if_neg c1] at h
 injection h with h; subst h
 obtain rfl : _ = r := ih
 simp only [gr,fk,TT,Ic.t,ci,reduceEqDiff,reduceIte,reduceAdd,reduceLT,reduceCtorEq,reduceToNat,hl,he,hr,c1,CL,LTN]
 exact hQ0 () rfl  _ _ _   (by first | rfl | (simp only [TT,Ic.t,ci,reduceEqDiff,reduceIte,reduceAdd,reduceLT,reduceCtorEq,reduceToNat,hl,c1,CL,LTN])) (by first | exact jf (Nat.le_refl _) | (simp only [TT,Ic.t,ci,reduceEqDiff,reduceIte,reduceAdd,reduceLT,reduceCtorEq,reduceToNat,hl,c1,CL,LTN]))
def ix (p1 : (List Int)) (p2 : Int) : Option Int :=
 dz p1 p2 ((p1.length : Nat) : Int) (0 : Int) >>= fun y1 =>
 match y1 with
 | .ex w2 =>
  some (-1 : Int)
 | .rt w4 =>
  some w4
theorem up (p1 : (List Int)) (p2 : Int) (r : Int) (h : ix p1 p2 = some r) (τ : TH) (hl : τ.lock ≤ τ.next) : Ru G fo [.sl (List.map (TV.int .i64) p1),.int .i64 p2] τ (.int .i64 r) τ := by
 refine li fun K hK => ?_
 rw [ce zcsn (Nat.le_of_ble_eq_true rfl)]
 unfold ix at h
 obtain ⟨y1,hy1,h⟩ := ob h
 simp only [fk,TT,Ic.t,ci,reduceEqDiff,reduceIte,reduceAdd,reduceLT,reduceCtorEq,reduceToNat,hl,CL,LTN]
 have Sy1 := zx p1 p2 ((p1.length : Nat) : Int) (0 : Int) y1 hy1
 unfold ia at Sy1
 refine Sy1 _ (by first | assumption | omega | (simp only [ag,am,ah,az]; omega)) _ ?_ ?_
 · intro w2 e frq3 tkq3 τq3 htq3 hcq3
   subst e
   simp only at h
   have hcq3 := eq (n := τ.next) hcq3 (by first | omega | (simp only [ag,am]; omega))
   try simp only [List.take_succ_cons,List.take_zero,List.take_nil,CL] at htq3
   try simp only [TT,Ic.t,ci,reduceEqDiff,reduceIte,reduceAdd,reduceLT,reduceCtorEq,reduceToNat,hl,CL,LTN] at hcq3
   injection h with h; subst h
   simp only [fk,TT,Ic.t,ci,reduceEqDiff,reduceIte,reduceAdd,reduceLT,reduceCtorEq,reduceToNat,hl,htq3,hcq3,CL,LTN]
   exact hK
 intro w4 e tkq5 τq5 hcq5
 subst e
 simp only at h
 have hcq5 := eq (n := τ.next) hcq5 (by first | omega | (simp only [ag,am]; omega))
 try simp only [TT,Ic.t,ci,reduceEqDiff,reduceIte,reduceAdd,reduceLT,reduceCtorEq,reduceToNat,hl,CL,LTN] at hcq5
 injection h with h; subst h
 simp only [fk,TT,Ic.t,ci,reduceEqDiff,reduceIte,reduceAdd,reduceLT,reduceCtorEq,reduceToNat,hl,hcq5,CL,LTN]
 exact hK
theorem zcsy (p1 : (List Int)) (p2 : Int) (r : Int) (h : ix p1 p2 = some r) (lk : Bool) (d : Option Nat) (K : aq) (fr : TF) (tk : TK) (τ : TH) (hl : τ.lock ≤ τ.next) : fi G lk fo [.sl (List.map (TV.int .i64) p1),.int .i64 p2] d K fr tk τ = K (ew fr d (.int .i64 r)) tk τ :=
 aw (up p1 p2 r h τ  hl) (up p1 p2 r h (τ.locked τ.next)  (Nat.le_refl _) ) (by simp only [TT,Ic.t,ci,reduceEqDiff,reduceIte,reduceAdd,reduceLT,reduceCtorEq,reduceToNat,hl,CL,LTN])
def dg (p1 : (List Int)) (p2 : Int) : Option Bool :=
 ix p1 p2 >>= fun y1 =>
 some (decide ((0 : Int) ≤ y1))
theorem pw (p1 : (List Int)) (p2 : Int) (r : Bool) (h : dg p1 p2 = some r) (τ : TH) (hl : τ.lock ≤ τ.next) : Ru G dh [.sl (List.map (TV.int .i64) p1),.int .i64 p2] τ (.bool r) τ := by
 refine li fun K hK => ?_
 rw [ce zcsv (Nat.le_of_ble_eq_true rfl)]
 unfold dg at h
 obtain ⟨y1,hy1,h⟩ := ob h
 have k2 := zcsy p1 p2 _ hy1
 try simp only [CL,MC,reduceToNat] at k2
 injection h with h; subst h
 simp only [zcst,TT,Ic.t,ci,reduceEqDiff,reduceIte,reduceAdd,reduceLT,reduceCtorEq,reduceToNat,hl,k2,CL,LTN]
 exact hK
theorem py (p1 : (List Int)) (p2 : Int) (r : Bool) (h : dg p1 p2 = some r) (lk : Bool) (d : Option Nat) (K : aq) (fr : TF) (tk : TK) (τ : TH) (hl : τ.lock ≤ τ.next) : fi G lk dh [.sl (List.map (TV.int .i64) p1),.int .i64 p2] d K fr tk τ = K (ew fr d (.bool r)) tk τ :=
 aw (pw p1 p2 r h τ  hl) (pw p1 p2 r h (τ.locked τ.next)  (Nat.le_refl _) ) (by simp only [TT,Ic.t,ci,reduceEqDiff,reduceIte,reduceAdd,reduceLT,reduceCtorEq,reduceToNat,hl,CL,LTN])
def ox (p1 : aa) (p2 : (List Int)) (p3 : Int) (p4 : Int) : Option Bool :=
 ixL p2 (IntKind.i64.wrap (p3 - (1 : Int))) >>= fun y1 =>
 if p1.From = y1 then
  some (decide (p1.To = p4))
 else
 some false
theorem zcgn (p1 : aa) (p2 : (List Int)) (p3 : Int) (p4 : Int) (r : Bool) (h : ox p1 p2 p3 p4 = some r) (τ : TH) (o0 : Nat) (o1 : Nat) (o2 : Nat) (hl : τ.lock ≤ τ.next) (ha0 : τ.at o0 = some ⟨za,[.sl (List.map (TV.int .i64) p2)]⟩) (hi0 : o0 < τ.next) (ha1 : τ.at o1 = some ⟨de,[.int .i64 p3]⟩) (hi1 : o1 < τ.next) (ha2 : τ.at o2 = some ⟨de,[.int .i64 p4]⟩) (hi2 : o2 < τ.next) : Ru G fy [.agg [.int .i64 p1.From,.int .i64 p1.To,.int .i64 p1.Ledger,.str p1.Asset,.int .i64 p1.Amount],.ptr o0 0,.ptr o1 0,.ptr o2 0] τ (.bool r) τ := by
 refine li fun K hK => ?_
 rw [ce zcqm (Nat.le_of_ble_eq_true rfl)]
 unfold ox at h
 obtain ⟨y1,hy1,h⟩ := ob h
 have f2 := bx hy1
 have f2a := (f2.2.2 (TV.int .i64)).1
 have f2b := (f2.2.2 (TV.int .i64)).2
 try simp only [CL,MC,reduceToNat] at f2 f2a f2b
 by_cases c3 : p1.From = y1
 · rw [if_pos c3] at h
   injection h with h; subst h
   simp only [zcc8,TT,Ic.t,ci,reduceEqDiff,reduceIte,reduceAdd,reduceLT,reduceCtorEq,reduceToNat,hl,ha0,hi0,ha1,hi1,ha2,hi2,f2.1,f2.2.1,f2a,f2b,eq_true c3,CL,LTN]
   exact hK
 rw [if_neg c3] at h
 injection h with h; subst h
 simp only [zcc8,TT,Ic.t,ci,reduceEqDiff,reduceIte,reduceAdd,reduceLT,reduceCtorEq,reduceToNat,hl,ha0,hi0,ha1,hi1,ha2,hi2,f2.1,f2.2.1,f2a,f2b,c3,CL,LTN]
 exact hK
theorem zcro (p1 : aa) (p2 : (List Int)) (p3 : Int) (p4 : Int) (r : Bool) (h : ox p1 p2 p3 p4 = some r) (lk : Bool) (d : Option Nat) (K : aq) (fr : TF) (tk : TK) (τ : TH) (o0 : Nat) (o1 : Nat) (o2 : Nat) (hl : τ.lock ≤ τ.next) (ha0 : τ.at o0 = some ⟨za,[.sl (List.map (TV.int .i64) p2)]⟩) (hi0 : o0 < τ.next) (ha1 : τ.at o1 = some ⟨de,[.int .i64 p3]⟩) (hi1 : o1 < τ.next) (ha2 : τ.at o2 = some ⟨de,[.int .i64 p4]⟩) (hi2 : o2 < τ.next) : fi G lk fy [.agg [.int .i64 p1.From,.int .i64 p1.To,.int .i64 p1.Ledger,.str p1.Asset,.int .i64 p1.Amount],.ptr o0 0,.ptr o1 0,.ptr o2 0] d K fr tk τ = K (ew fr d (.bool r)) tk τ :=
 aw (zcgn p1 p2 p3 p4 r h τ o0 o1 o2 hl ha0 hi0 ha1 hi1 ha2 hi2) (zcgn p1 p2 p3 p4 r h (τ.locked τ.next) o0 o1 o2 (Nat.le_refl _) (by rw [zaqi]; exact ha0) hi0 (by rw [zaqi]; exact ha1) hi1 (by rw [zaqi]; exact ha2) hi2) (by simp only [TT,Ic.t,ci,reduceEqDiff,reduceIte,reduceAdd,reduceLT,reduceCtorEq,reduceToNat,hl,ha0,hi0,ha1,hi1,ha2,hi2,CL,LTN])
def au (v0 : (List aa)) (v1 : (List Int)) (v2 : Int) (v3 : Int) (v4 : Int) (v5 : Int) : Option (LS (Int) (LX (Unit) (Int))) :=
 if v5 < v4 then
  ixL v0 v5 >>= fun y2 =>
  ox (⟨y2.From,y2.To,y2.Ledger,y2.Asset,y2.Amount⟩ : aa) v1 v2 v3 >>= fun y4 =>
  if y4 = true then
   some (.dn (.rt v5))
  else
  some (.nx (IntKind.i64.wrap (v5 + (1 : Int))))
 else
 some (.dn (.ex ()))
def bf (v0 : (List aa)) (v1 : (List Int)) (v2 : Int) (v3 : Int) (v4 : Int) (v5 : Int) : Option (LX (Unit) (Int)) := qb (fun st => au v0 v1 v2 v3 v4 st) v5
theorem je (v0 : (List aa)) (v1 : (List Int)) (v2 : Int) (v3 : Int) (v4 : Int) (v5 : Int) : bf v0 v1 v2 v3 v4 v5 = au v0 v1 v2 v3 v4 v5 >>= LS.go (fun st => bf v0 v1 v2 v3 v4 st) := ig (fun st => au v0 v1 v2 v3 v4 st) v5
def dc (v0 : (List aa)) (v1 : (List Int)) (v2 : Int) (v3 : Int) (v4 : Int) (v5 : Int) (r : LX (Unit) (Int)) : Prop := ∀ (τ : TH) (o0 : Nat) (o1 : Nat) (o2 : Nat) (hl : τ.lock ≤ τ.next) (ha0 : τ.at o0 = some ⟨za,[.sl (List.map (TV.int .i64) v1)]⟩) (hi0 : o0 < τ.next) (ha1 : τ.at o1 = some ⟨de,[.int .i64 v2]⟩) (hi1 : o1 < τ.next) (ha2 : τ.at o2 = some ⟨de,[.int .i64 v3]⟩) (hi2 : o2 < τ.next) (Q : TEx → aq) (hQ0 : ∀ v : Unit,r = (.ex v) → ∀ (fr : TF) (tk2 : TK) (τ2 : TH),tk2.take 0 = [] → τ2.cut τ.next = τ → Q (.exit 0) fr tk2 τ2) (hQ1 : ∀ v : Int,r = (.rt v) → ∀ (tk2 : TK) (τ2 : TH),τ2.cut τ.next = τ → Q .ret [(4,.int .i64 v)] tk2 τ2) ,tW G (.loop [0,1,7,8] cd) Q [(0,.sl (List.map aa.tv v0)),(1,.func fy [] [.ptr o0 0,.ptr o1 0,.ptr o2 0]),(7,.int .i64 v4),(8,.int .i64 v5)] [] τ
theorem pv (v0 : (List aa)) (v1 : (List Int)) (v2 : Int) (v3 : Int) (v4 : Int) (v5 : Int) (r : LX (Unit) (Int)) (h : bf v0 v1 v2 v3 v4 v5 = some r) : dc v0 v1 v2 v3 v4 v5 r := by
 refine fh (f := fun st => au v0 v1 v2 v3 v4 st) (P := fun st r => ∀ (v5 : Int),v5 = st → dc v0 v1 v2 v3 v4 v5 r) ?_ h v5 rfl
 clear h r v5
 intro st o h r ih v5 hst τ o0 o1 o2  hl ha0 hi0 ha1 hi1 ha2 hi2 Q hQ0 hQ1
 subst hst
 have h : au v0 v1 v2 v3 v4 v5 = some o := h
 unfold au at h
 refine nv fun LQ hn hr he => ?_
 by_cases c1 : v5 < v4
 · rw [if_pos c1] at h
   obtain ⟨y2,hy2,h⟩ := ob h
   have f3 := bx hy2
   have f3a := (f3.2.2 aa.tv).1
   have f3b := (f3.2.2 aa.tv).2
   try simp only [CL,MC,reduceToNat] at f3 f3a f3b
   obtain ⟨y4,hy4,h⟩ := ob h
   have k5 := zcro (⟨y2.From,y2.To,y2.Ledger,y2.Asset,y2.Amount⟩ : aa) v1 v2 v3 _ hy4
   try simp only [CL,MC,reduceToNat] at k5
   by_cases c6 : y4 = true
   · rw [if_pos c6] at h
     injection h with h; subst h
     obtain rfl : _ = r := ih
     simp only [cd,bu,TT,Ic.t,ci,reduceEqDiff,reduceIte,reduceAdd,reduceLT,reduceCtorEq,reduceToNat,hl,ha0,hi0,ha1,hi1,ha2,hi2,he,hr,c1,f3.1,f3.2.1,f3a,f3b,k5,c6,CL,LTN]
     exact hQ1 v5 rfl  _ _  (by first | exact jf (Nat.le_refl _) | (simp only [TT,Ic.t,ci,reduceEqDiff,reduceIte,reduceAdd,reduceLT,reduceCtorEq,reduceToNat,hl,ha0,hi0,ha1,hi1,ha2,hi2,c1,f3.1,f3.2.1,f3a,f3b,k5,c6,CL,LTN]))
   rw [if_neg c6] at h
   have c6 := Bool.eq_false_iff.2 c6
   injection h with h; subst h
   have ih := ih (IntKind.i64.wrap (v5 + (1 : Int))) rfl
   unfold dc at ih
   simp only [cd,bu,TT,Ic.t,ci,reduceEqDiff,reduceIte,reduceAdd,reduceLT,reduceCtorEq,reduceToNat,hl,ha0,hi0,ha1,hi1,ha2,hi2,c1,f3.1,f3.2.1,f3a,f3b,k5,c6,CL,LTN]
   rw [hn]
   simp only [TT,Ic.t,ci,reduceEqDiff,reduceIte,reduceAdd,reduceLT,reduceCtorEq,reduceToNat,hl,ha0,hi0,ha1,hi1,ha2,hi2,c1,f3.1,f3.2.1,f3a,f3b,k5,c6,CL,LTN]
   exact ih  τ o0 o1 o2   (by first | assumption | (simp only [ag,ah]; assumption)) (by simp only [TT,Ic.t,ci,reduceEqDiff,reduceIte,reduceAdd,reduceLT,reduceCtorEq,reduceToNat,hl,ha0,hi0,ha1,hi1,ha2,hi2,c1,f3.1,f3.2.1,f3a,f3b,k5,c6,CL,LTN]) (by first | assumption | (simp only [ag,ah]; assumption)) (by simp only [TT,Ic.t,ci,reduceEqDiff,reduceIte,reduceAdd,reduceLT,reduceCtorEq,reduceToNat,hl,ha0,hi0,ha1,hi1,ha2,hi2,c1,f3.1,f3.2.1,f3a,f3b,k5,c6,CL,LTN]) (by first | assumption | (simp only [ag,ah]; assumption)) (by simp only [TT,Ic.t,ci,reduceEqDiff,reduceIte,reduceAdd,reduceLT,reduceCtorEq,reduceToNat,hl,ha0,hi0,ha1,hi1,ha2,hi2,c1,f3.1,f3.2.1,f3a,f3b,k5,c6,CL,LTN]) (by first | assumption | (simp only [ag,ah]; assumption)) Q hQ0 hQ1
 rw [if_neg c1] at h
 injection h with h; subst h
 obtain rfl : _ = r := ih
 simp only [cd,bu,TT,Ic.t,ci,reduceEqDiff,reduceIte,reduceAdd,reduceLT,reduceCtorEq,reduceToNat,hl,ha0,hi0,ha1,hi1,ha2,hi2,he,hr,c1,CL,LTN]
 exact hQ0 () rfl  _ _ _   (by first | rfl | (simp only [TT,Ic.t,ci,reduceEqDiff,reduceIte,reduceAdd,reduceLT,reduceCtorEq,reduceToNat,hl,ha0,hi0,ha1,hi1,ha2,hi2,c1,CL,LTN])) (by first | exact jf (Nat.le_refl _) | (simp only [TT,Ic.t,ci,reduceEqDiff,reduceIte,reduceAdd,reduceLT,reduceCtorEq,reduceToNat,hl,ha0,hi0,ha1,hi1,ha2,hi2,c1,CL,LTN]))
def cq (p1 : (List aa)) (p2 : (List Int)) (p3 : Int) (p4 : Int) : Option Int :=
 bf p1 p2 p3 p4 ((p1.length : Nat) : Int) (0 : Int) >>= fun y1 =>
 match y1 with
 | .ex w2 =>
  some (-1 : Int)
 | .rt w4 =>
  some w4
theorem km (p1 : (List aa)) (p2 : (List Int)) (p3 : Int) (p4 : Int) (r : Int) (h : cq p1 p2 p3 p4 = some r) (τ : TH) (o0 : Nat) (o1 : Nat) (o2 : Nat) (hl : τ.lock ≤ τ.next) (ha0 : τ.at o0 = some ⟨za,[.sl (List.map (TV.int .i64) p2)]⟩) (hi0 : o0 < τ.next) (ha1 : τ.at o1 = some ⟨de,[.int .i64 p3]⟩) (hi1 : o1 < τ.next) (ha2 : τ.at o2 = some ⟨de,[.int .i64 p4]⟩) (hi2 : o2 < τ.next) : Ru G bv [.sl (List.map aa.tv p1),.func fy [] [.ptr o0 0,.ptr o1 0,.ptr o2 0]] τ (.int .i64 r) τ := by
 refine li fun K hK => ?_
 rw [ce vf (Nat.le_of_ble_eq_true rfl)]
 unfold cq at h
 obtain ⟨y1,hy1,h⟩ := ob h
 simp only [bu,TT,Ic.t,ci,reduceEqDiff,reduceIte,reduceAdd,reduceLT,reduceCtorEq,reduceToNat,hl,ha0,hi0,ha1,hi1,ha2,hi2,CL,LTN]
 have Sy1 := pv p1 p2 p3 p4 ((p1.length : Nat) : Int) (0 : Int) y1 hy1
 unfold dc at Sy1
 refine Sy1 _ o0 o1 o2 (by first | assumption | omega | (simp only [ag,am,ah,az]; omega)) (by simp only [TT,Ic.t,ci,reduceEqDiff,reduceIte,reduceAdd,reduceLT,reduceCtorEq,reduceToNat,hl,ha0,hi0,ha1,hi1,ha2,hi2,CL,LTN]) (by first | assumption | omega | (simp only [ag,am,ah,az]; omega)) (by simp only [TT,Ic.t,ci,reduceEqDiff,reduceIte,reduceAdd,reduceLT,reduceCtorEq,reduceToNat,hl,ha0,hi0,ha1,hi1,ha2,hi2,CL,LTN]) (by first | assumption | omega | (simp only [ag,am,ah,az]; omega)) (by simp only [TT,Ic.t,ci,reduceEqDiff,reduceIte,reduceAdd,reduceLT,reduceCtorEq,reduceToNat,hl,ha0,hi0,ha1,hi1,ha2,hi2,CL,LTN]) (by first | assumption | omega | (simp only [ag,am,ah,az]; omega)) _ ?_ ?_
 · intro w2 e frq3 tkq3 τq3 htq3 hcq3
   subst e
   simp only at h
   have hcq3 := eq (n := τ.next) hcq3 (by first | omega | (simp only [ag,am]; omega))
   try simp only [List.take_succ_cons,List.take_zero,List.take_nil,CL] at htq3
   try simp only [TT,Ic.t,ci,reduceEqDiff,reduceIte,reduceAdd,reduceLT,reduceCtorEq,reduceToNat,hl,ha0,hi0,ha1,hi1,ha2,hi2,CL,LTN] at hcq3
   injection h with h; subst h
   simp only [bu,TT,Ic.t,ci,reduceEqDiff,reduceIte,reduceAdd,reduceLT,reduceCtorEq,reduceToNat,hl,ha0,hi0,ha1,hi1,ha2,hi2,htq3,hcq3,CL,LTN]
   exact hK
 intro w4 e tkq5 τq5 hcq5
 subst e
 simp only at h
 have hcq5 := eq (n := τ.next) hcq5 (by first | omega | (simp only [ag,am]; omega))
 try simp only [TT,Ic.t,ci,reduceEqDiff,reduceIte,reduceAdd,reduceLT,reduceCtorEq,reduceToNat,hl,ha0,hi0,ha1,hi1,ha2,hi2,CL,LTN] at hcq5
 injection h with h; subst h
 simp only [bu,TT,Ic.t,ci,reduceEqDiff,reduceIte,reduceAdd,reduceLT,reduceCtorEq,reduceToNat,hl,ha0,hi0,ha1,hi1,ha2,hi2,hcq5,CL,LTN]
 exact hK
theorem sn (p1 : (List aa)) (p2 : (List Int)) (p3 : Int) (p4 : Int) (r : Int) (h : cq p1 p2 p3 p4 = some r) (lk : Bool) (d : Option Nat) (K : aq) (fr : TF) (tk : TK) (τ : TH) (o0 : Nat) (o1 : Nat) (o2 : Nat) (hl : τ.lock ≤ τ.next) (ha0 : τ.at o0 = some ⟨za,[.sl (List.map (TV.int .i64) p2)]⟩) (hi0 : o0 < τ.next) (ha1 : τ.at o1 = some ⟨de,[.int .i64 p3]⟩) (hi1 : o1 < τ.next) (ha2 : τ.at o2 = some ⟨de,[.int .i64 p4]⟩) (hi2 : o2 < τ.next) : fi G lk bv [.sl (List.map aa.tv p1),.func fy [] [.ptr o0 0,.ptr o1 0,.ptr o2 0]] d K fr tk τ = K (ew fr d (.int .i64 r)) tk τ :=
 aw (km p1 p2 p3 p4 r h τ o0 o1 o2 hl ha0 hi0 ha1 hi1 ha2 hi2) (km p1 p2 p3 p4 r h (τ.locked τ.next) o0 o1 o2 (Nat.le_refl _) (by rw [zaqi]; exact ha0) hi0 (by rw [zaqi]; exact ha1) hi1 (by rw [zaqi]; exact ha2) hi2) (by simp only [TT,Ic.t,ci,reduceEqDiff,reduceIte,reduceAdd,reduceLT,reduceCtorEq,reduceToNat,hl,ha0,hi0,ha1,hi1,ha2,hi2,CL,LTN])
def bg (p1 : (List aa)) (p2 : (List Int)) (p3 : Int) (p4 : Int) : Option Bool :=
 cq p1 p2 p3 p4 >>= fun y1 =>
 some (decide ((0 : Int) ≤ y1))
theorem jo (p1 : (List aa)) (p2 : (List Int)) (p3 : Int) (p4 : Int) (r : Bool) (h : bg p1 p2 p3 p4 = some r) (τ : TH) (o0 : Nat) (o1 : Nat) (o2 : Nat) (hl : τ.lock ≤ τ.next) (ha0 : τ.at o0 = some ⟨za,[.sl (List.map (TV.int .i64) p2)]⟩) (hi0 : o0 < τ.next) (ha1 : τ.at o1 = some ⟨de,[.int .i64 p3]⟩) (hi1 : o1 < τ.next) (ha2 : τ.at o2 = some ⟨de,[.int .i64 p4]⟩) (hi2 : o2 < τ.next) : Ru G bh [.sl (List.map aa.tv p1),.func fy [] [.ptr o0 0,.ptr o1 0,.ptr o2 0]] τ (.bool r) τ := by
 refine li fun K hK => ?_
 rw [ce se (Nat.le_of_ble_eq_true rfl)]
 unfold bg at h
 obtain ⟨y1,hy1,h⟩ := ob h
 have k2 := sn p1 p2 p3 p4 _ hy1
 try simp only [CL,MC,reduceToNat] at k2
 injection h with h; subst h
 simp only [sg,TT,Ic.t,ci,reduceEqDiff,reduceIte,reduceAdd,reduceLT,reduceCtorEq,reduceToNat,hl,ha0,hi0,ha1,hi1,ha2,hi2,k2,CL,LTN]
 exact hK
theorem pz (p1 : (List aa)) (p2 : (List Int)) (p3 : Int) (p4 : Int) (r : Bool) (h : bg p1 p2 p3 p4 = some r) (lk : Bool) (d : Option Nat) (K : aq) (fr : TF) (tk : TK) (τ : TH) (o0 : Nat) (o1 : Nat) (o2 : Nat) (hl : τ.lock ≤ τ.next) (ha0 : τ.at o0 = some ⟨za,[.sl (List.map (TV.int .i64) p2)]⟩) (hi0 : o0 < τ.next) (ha1 : τ.at o1 = some ⟨de,[.int .i64 p3]⟩) (hi1 : o1 < τ.next) (ha2 : τ.at o2 = some ⟨de,[.int .i64 p4]⟩) (hi2 : o2 < τ.next) : fi G lk bh [.sl (List.map aa.tv p1),.func fy [] [.ptr o0 0,.ptr o1 0,.ptr o2 0]] d K fr tk τ = K (ew fr d (.bool r)) tk τ :=
 aw (jo p1 p2 p3 p4 r h τ o0 o1 o2 hl ha0 hi0 ha1 hi1 ha2 hi2) (jo p1 p2 p3 p4 r h (τ.locked τ.next) o0 o1 o2 (Nat.le_refl _) (by rw [zaqi]; exact ha0) hi0 (by rw [zaqi]; exact ha1) hi1 (by rw [zaqi]; exact ha2) hi2) (by simp only [TT,Ic.t,ci,reduceEqDiff,reduceIte,reduceAdd,reduceLT,reduceCtorEq,reduceToNat,hl,ha0,hi0,ha1,hi1,ha2,hi2,CL,LTN])
def dl (v0 : ac) (v1 : (List Int)) (v2 : (List Int)) (v3 : Int) (v4 : Int) : Option (LS (Int) (LX (Unit) (Bool))) :=
 if v4 < v3 then
  ixL v2 v4 >>= fun y2 =>
  if y2 < (0 : Int) then
   some (.dn (.rt false))
  else
  if ((v0.Parties.length : Nat) : Int) ≤ y2 then
   some (.dn (.rt false))
  else
  if ¬ v1 = [] then
   if 0 ≤ v4 ∧ v4 ≤ (v1.length : Int) then
    dg (v1.take v4.toNat) y2 >>= fun y11 =>
    if y11 = true then
     some (.dn (.rt false))
    else
    if (0 : Int) < v4 then
     bg v0.Arcs v1 v4 y2 >>= fun y15 =>
     if y15 = true then
      some (.nx (IntKind.i64.wrap (v4 + (1 : Int))))
     else
     some (.dn (.rt false))
    else
    some (.nx (IntKind.i64.wrap (v4 + (1 : Int))))
   else
    none
  else
   none
 else
 some (.dn (.ex ()))
def ej (v0 : ac) (v1 : (List Int)) (v2 : (List Int)) (v3 : Int) (v4 : Int) : Option (LX (Unit) (Bool)) := qb (fun st => dl v0 v1 v2 v3 st) v4
theorem vq (v0 : ac) (v1 : (List Int)) (v2 : (List Int)) (v3 : Int) (v4 : Int) : ej v0 v1 v2 v3 v4 = dl v0 v1 v2 v3 v4 >>= LS.go (fun st => ej v0 v1 v2 v3 st) := ig (fun st => dl v0 v1 v2 v3 st) v4
def nm (v0 : ac) (v1 : (List Int)) (v2 : (List Int)) (v3 : Int) (v4 : Int) (r : LX (Unit) (Bool)) : Prop := ∀ (τ : TH) (o0 : Nat) (o1 : Nat) (hl : τ.lock ≤ τ.next) (ha0 : τ.at o0 = some ⟨a9,[.str v0.ID,.sl (List.map af.tv v0.Parties),.sl (List.map aa.tv v0.Arcs),.sl (List.map (TV.int .i64) v0.Leaders),.sl (List.map TV.str v0.Locks),.int .i64 v0.Start,.int .i64 v0.Delta]⟩) (hi0 : o0 < τ.next) (ha1 : τ.at o1 = some ⟨za,[.sl (List.map (TV.int .i64) v1)]⟩) (hi1 : o1 < τ.next) (Q : TEx → aq) (hQ0 : ∀ v : Unit,r = (.ex v) → ∀ (fr : TF) (tk2 : TK) (τ2 : TH),tk2.take 0 = [] → τ2.cut τ.next = τ → Q (.exit 0) fr tk2 τ2) (hQ1 : ∀ v : Bool,r = (.rt v) → ∀ (tk2 : TK) (τ2 : TH),τ2.cut τ.next = τ → Q .ret [(4,.bool v)] tk2 τ2) ,tW G (.loop [2,3,15,16,17] jg) Q [(2,.ptr o0 0),(3,.ptr o1 0),(15,.sl (List.map (TV.int .i64) v2)),(16,.int .i64 v3),(17,.int .i64 v4)] [] τ
theorem zcr6 (v0 : ac) (v1 : (List Int)) (v2 : (List Int)) (v3 : Int) (v4 : Int) (r : LX (Unit) (Bool)) (h : ej v0 v1 v2 v3 v4 = some r) : nm v0 v1 v2 v3 v4 r := by
 refine fh (f := fun st => dl v0 v1 v2 v3 st) (P := fun st r => ∀ (v4 : Int),v4 = st → nm v0 v1 v2 v3 v4 r) ?_ h v4 rfl
 clear h r v4
 intro st o h r ih v4 hst τ o0 o1  hl ha0 hi0 ha1 hi1 Q hQ0 hQ1
 subst hst
 have h : dl v0 v1 v2 v3 v4 = some o := h
 unfold dl at h
 refine nv fun LQ hn hr he => ?_
 by_cases c1 : v4 < v3
 · rw [if_pos c1] at h
   obtain ⟨y2,hy2,h⟩ := ob h
   have f3 := bx hy2
   have f3a := (f3.2.2 (TV.int .i64)).1
   have f3b := (f3.2.2 (TV.int .i64)).2
   try simp only [CL,MC,reduceToNat] at f3 f3a f3b
   by_cases c4 : y2 < (0 : Int)
   · rw [if_pos c4] at h
     injection h with h; subst h
     obtain rfl : _ = r := ih
     simp only [jg,ir,TT,Ic.t,ci,reduceEqDiff,reduceIte,reduceAdd,reduceLT,reduceCtorEq,reduceToNat,hl,ha0,hi0,ha1,hi1,he,hr,c1,f3.1,f3.2.1,f3a,f3b,c4,CL,LTN]
     exact hQ1 false rfl  _ _  (by first | exact jf (Nat.le_refl _) | (simp only [TT,Ic.t,ci,reduceEqDiff,reduceIte,reduceAdd,reduceLT,reduceCtorEq,reduceToNat,hl,ha0,hi0,ha1,hi1,c1,f3.1,f3.2.1,f3a,f3b,c4,CL,LTN]))
   rw [if_neg c4] at h
   by_cases c5 : ((v0.Parties.length : Nat) : Int) ≤ y2
   · rw [if_pos c5] at h
     injection h with h; subst h
     obtain rfl : _ = r := ih
     simp only [jg,ir,TT,Ic.t,ci,reduceEqDiff,reduceIte,reduceAdd,reduceLT,reduceCtorEq,reduceToNat,hl,ha0,hi0,ha1,hi1,he,hr,c1,f3.1,f3.2.1,f3a,f3b,c4,c5,CL,LTN]
     exact hQ1 false rfl  _ _  (by first | exact jf (Nat.le_refl _) | (simp only [TT,Ic.t,ci,reduceEqDiff,reduceIte,reduceAdd,reduceLT,reduceCtorEq,reduceToNat,hl,ha0,hi0,ha1,hi1,c1,f3.1,f3.2.1,f3a,f3b,c4,c5,CL,LTN]))
   rw [if_neg c5] at h
   obtain ⟨c6,h⟩ := ifS h
   obtain ⟨c7,h⟩ := ifS h
   have f8 : ((List.map (TV.int .i64) v1).all fun e => e.cells.length == 1) = true := zbbh (fun _ => rfl) _
   have f9 : (!(List.map (TV.int .i64) v1).isEmpty) = true := zcob c6
   have f10 : (List.map (TV.int .i64) v1).take v4.toNat = List.map (TV.int .i64) (v1.take v4.toNat) := List.map_take.symm
   obtain ⟨y11,hy11,h⟩ := ob h
   have k12 := py (v1.take v4.toNat) y2 _ hy11
   try simp only [CL,MC,reduceToNat] at k12
   by_cases c13 : y11 = true
   · rw [if_pos c13] at h
     injection h with h; subst h
     obtain rfl : _ = r := ih
     simp only [jg,ir,TT,Ic.t,ci,reduceEqDiff,reduceIte,reduceAdd,reduceLT,reduceCtorEq,reduceToNat,hl,ha0,hi0,ha1,hi1,he,hr,c1,f3.1,f3.2.1,f3a,f3b,c4,c5,c7,f8,f9,f10,k12,c13,CL,LTN]
     exact hQ1 false rfl  _ _  (by first | exact jf (Nat.le_refl _) | (simp only [TT,Ic.t,ci,reduceEqDiff,reduceIte,reduceAdd,reduceLT,reduceCtorEq,reduceToNat,hl,ha0,hi0,ha1,hi1,c1,f3.1,f3.2.1,f3a,f3b,c4,c5,c7,f8,f9,f10,k12,c13,CL,LTN]))
   rw [if_neg c13] at h
   have c13 := Bool.eq_false_iff.2 c13
   by_cases c14 : (0 : Int) < v4
   · rw [if_pos c14] at h
     obtain ⟨y15,hy15,h⟩ := ob h
     have k16 := pz v0.Arcs v1 v4 y2 _ hy15
     try simp only [CL,MC,reduceToNat] at k16
     by_cases c17 : y15 = true
     · rw [if_pos c17] at h
       injection h with h; subst h
       have ih := ih (IntKind.i64.wrap (v4 + (1 : Int))) rfl
       unfold nm at ih
       simp only [jg,ir,TT,Ic.t,ci,reduceEqDiff,reduceIte,reduceAdd,reduceLT,reduceCtorEq,reduceToNat,hl,ha0,hi0,ha1,hi1,c1,f3.1,f3.2.1,f3a,f3b,c4,c5,c7,f8,f9,f10,k12,c13,c14,k16,c17,CL,LTN]
       rw [hn]
       simp only [TT,Ic.t,ci,reduceEqDiff,reduceIte,reduceAdd,reduceLT,reduceCtorEq,reduceToNat,hl,ha0,hi0,ha1,hi1,c1,f3.1,f3.2.1,f3a,f3b,c4,c5,c7,f8,f9,f10,k12,c13,c14,k16,c17,CL,LTN]
       exact ih  τ o0 o1   (by first | assumption | (simp only [ag,ah]; assumption)) (by simp only [TT,Ic.t,ci,reduceEqDiff,reduceIte,reduceAdd,reduceLT,reduceCtorEq,reduceToNat,hl,ha0,hi0,ha1,hi1,c1,f3.1,f3.2.1,f3a,f3b,c4,c5,c7,f8,f9,f10,k12,c13,c14,k16,c17,CL,LTN]) (by first | assumption | (simp only [ag,ah]; assumption)) (by simp only [TT,Ic.t,ci,reduceEqDiff,reduceIte,reduceAdd,reduceLT,reduceCtorEq,reduceToNat,hl,ha0,hi0,ha1,hi1,c1,f3.1,f3.2.1,f3a,f3b,c4,c5,c7,f8,f9,f10,k12,c13,c14,k16,c17,CL,LTN]) (by first | assumption | (simp only [ag,ah]; assumption)) Q hQ0 hQ1
     rw [if_neg c17] at h
     have c17 := Bool.eq_false_iff.2 c17
     injection h with h; subst h
     obtain rfl : _ = r := ih
     simp only [jg,ir,TT,Ic.t,ci,reduceEqDiff,reduceIte,reduceAdd,reduceLT,reduceCtorEq,reduceToNat,hl,ha0,hi0,ha1,hi1,he,hr,c1,f3.1,f3.2.1,f3a,f3b,c4,c5,c7,f8,f9,f10,k12,c13,c14,k16,c17,CL,LTN]
     exact hQ1 false rfl  _ _  (by first | exact jf (Nat.le_refl _) | (simp only [TT,Ic.t,ci,reduceEqDiff,reduceIte,reduceAdd,reduceLT,reduceCtorEq,reduceToNat,hl,ha0,hi0,ha1,hi1,c1,f3.1,f3.2.1,f3a,f3b,c4,c5,c7,f8,f9,f10,k12,c13,c14,k16,c17,CL,LTN]))
   rw [if_neg c14] at h
   injection h with h; subst h
   have ih := ih (IntKind.i64.wrap (v4 + (1 : Int))) rfl
   unfold nm at ih
   simp only [jg,ir,TT,Ic.t,ci,reduceEqDiff,reduceIte,reduceAdd,reduceLT,reduceCtorEq,reduceToNat,hl,ha0,hi0,ha1,hi1,c1,f3.1,f3.2.1,f3a,f3b,c4,c5,c7,f8,f9,f10,k12,c13,c14,CL,LTN]
   rw [hn]
   simp only [TT,Ic.t,ci,reduceEqDiff,reduceIte,reduceAdd,reduceLT,reduceCtorEq,reduceToNat,hl,ha0,hi0,ha1,hi1,c1,f3.1,f3.2.1,f3a,f3b,c4,c5,c7,f8,f9,f10,k12,c13,c14,CL,LTN]
   exact ih  τ o0 o1   (by first | assumption | (simp only [ag,ah]; assumption)) (by simp only [TT,Ic.t,ci,reduceEqDiff,reduceIte,reduceAdd,reduceLT,reduceCtorEq,reduceToNat,hl,ha0,hi0,ha1,hi1,c1,f3.1,f3.2.1,f3a,f3b,c4,c5,c7,f8,f9,f10,k12,c13,c14,CL,LTN]) (by first | assumption | (simp only [ag,ah]; assumption)) (by simp only [TT,Ic.t,ci,reduceEqDiff,reduceIte,reduceAdd,reduceLT,reduceCtorEq,reduceToNat,hl,ha0,hi0,ha1,hi1,c1,f3.1,f3.2.1,f3a,f3b,c4,c5,c7,f8,f9,f10,k12,c13,c14,CL,LTN]) (by first | assumption | (simp only [ag,ah]; assumption)) Q hQ0 hQ1
 rw [if_neg c1] at h
 injection h with h; subst h
 obtain rfl : _ = r := ih
 simp only [jg,ir,TT,Ic.t,ci,reduceEqDiff,reduceIte,reduceAdd,reduceLT,reduceCtorEq,reduceToNat,hl,ha0,hi0,ha1,hi1,he,hr,c1,CL,LTN]
 exact hQ0 () rfl  _ _ _   (by first | rfl | (simp only [TT,Ic.t,ci,reduceEqDiff,reduceIte,reduceAdd,reduceLT,reduceCtorEq,reduceToNat,hl,ha0,hi0,ha1,hi1,c1,CL,LTN])) (by first | exact jf (Nat.le_refl _) | (simp only [TT,Ic.t,ci,reduceEqDiff,reduceIte,reduceAdd,reduceLT,reduceCtorEq,reduceToNat,hl,ha0,hi0,ha1,hi1,c1,CL,LTN]))
end
end Go.Proofs.Ytdcfoaafkppojaa
