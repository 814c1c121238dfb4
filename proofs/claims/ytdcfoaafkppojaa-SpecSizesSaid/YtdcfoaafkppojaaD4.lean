import Derived.Test.YtdcfoaafkppojaaM21
set_option linter.unusedVariables false
set_option linter.unusedSimpArgs false
set_option linter.unusedSectionVars false
open Nat (reduceEqDiff reduceAdd reduceMul reduceLT reduceLeDiff reduceSub)
open Int (reduceToNat reduceNe reduceEq reduceNeg reduceLE)
namespace Go.Proofs.Ytdcfoaafkppojaa
open Go Go.RowKit Sh Ic
noncomputable section
def wv (p1 : Int) (p2 : Int) : Option Bool :=
 nw p1 (0 : Int) (IntKind.i64.wrap (p2 - (1 : Int))) >>= fun y1 =>
 some (!y1)
theorem zctp (p1 : Int) (p2 : Int) (r : Bool) (h : wv p1 p2 = some r) (τ : TH) (o0 : Nat) (hl : τ.lock ≤ τ.next) (ha0 : τ.at o0 = some ⟨u7,[.int .i64 p2]⟩) (hi0 : o0 < τ.next) : Ru G iu [.int .i64 p1,.ptr o0 0] τ (.bool r) τ := by
 refine jv fun K hK => ?_
 rw [bx zdbm (Nat.le_of_ble_eq_true rfl)]
 unfold wv at h
 obtain ⟨y1,hy1,h⟩ := ob h
 have k2 := pk p1 (0 : Int) (IntKind.i64.wrap (p2 - (1 : Int))) _ hy1
 try simp only [CL,MC,reduceToNat] at k2
 injection h with h; subst h
 simp -implicitDefEqProofs only [zdbd,TT,Ic.t,ci,reduceEqDiff,reduceIte,reduceAdd,reduceLT,reduceCtorEq,reduceToNat,hl,ha0,hi0,k2,CL,LTN]
 exact hK
theorem zc6h (p1 : Int) (p2 : Int) (r : Bool) (h : wv p1 p2 = some r) (lk : Bool) (d : Option Nat) (K : av) (fr : TF) (tk : TK) (τ : TH) (o0 : Nat) (hl : τ.lock ≤ τ.next) (ha0 : τ.at o0 = some ⟨u7,[.int .i64 p2]⟩) (hi0 : o0 < τ.next) : fp G lk iu [.int .i64 p1,.ptr o0 0] d K fr tk τ = K (gg fr d (.bool r)) tk τ :=
 bn (zctp p1 p2 r h τ o0 hl ha0 hi0) (zctp p1 p2 r h (τ.locked τ.next) o0 (Nat.le_refl _) (by rw [zbtx]; exact ha0) hi0) (by simp -implicitDefEqProofs only [TT,Ic.t,ci,reduceEqDiff,reduceIte,reduceAdd,reduceLT,reduceCtorEq,reduceToNat,hl,ha0,hi0,CL,LTN])
def br (v0 : (List Int)) (v1 : Int) (v2 : Int) (v3 : Int) : Option (LS (Int) (LX (Unit) (Int))) :=
 if v3 < v2 then
  ixL v0 v3 >>= fun y2 =>
  wv y2 v1 >>= fun y4 =>
  if y4 = true then
   some (.dn (.rt v3))
  else
  some (.nx (IntKind.i64.wrap (v3 + (1 : Int))))
 else
 some (.dn (.ex ()))
def d8 (v0 : (List Int)) (v1 : Int) (v2 : Int) (v3 : Int) : Option (LX (Unit) (Int)) := sq (fun st => br v0 v1 v2 st) v3
theorem pn (v0 : (List Int)) (v1 : Int) (v2 : Int) (v3 : Int) : d8 v0 v1 v2 v3 = br v0 v1 v2 v3 >>= LS.go (fun st => d8 v0 v1 v2 st) := gy (fun st => br v0 v1 v2 st) v3
def gx (v0 : (List Int)) (v1 : Int) (v2 : Int) (v3 : Int) (r : LX (Unit) (Int)) : Prop := ∀ (τ : TH) (o0 : Nat) (hl : τ.lock ≤ τ.next) (ha0 : τ.at o0 = some ⟨u7,[.int .i64 v1]⟩) (hi0 : o0 < τ.next) (Q : TEx → av) (hQ0 : ∀ v : Unit,r = (.ex v) → ∀ (fr : TF) (tk2 : TK) (τ2 : TH),tk2.take 0 = [] → τ2.cut τ.next = τ → Q (.exit 0) fr tk2 τ2) (hQ1 : ∀ v : Int,r = (.rt v) → ∀ (tk2 : TK) (τ2 : TH),τ2.cut τ.next = τ → Q .ret [(4,.int .i64 v)] tk2 τ2) ,tW G (.loop [0,1,7,8] gt) Q [(0,.sl (List.map (TV.int .i64) v0)),(1,.func iu [] [.ptr o0 0]),(7,.int .i64 v2),(8,.int .i64 v3)] [] τ
theorem zc9d (v0 : (List Int)) (v1 : Int) (v2 : Int) (v3 : Int) (r : LX (Unit) (Int)) (h : d8 v0 v1 v2 v3 = some r) : gx v0 v1 v2 v3 r := by
 refine fg (f := fun st => br v0 v1 v2 st) (P := fun st r => ∀ (v3 : Int),v3 = st → gx v0 v1 v2 v3 r) ?_ h v3 rfl
 clear h r v3
 intro st o h r ih v3 hst τ o0  hl ha0 hi0 Q hQ0 hQ1
 subst hst
 have h : br v0 v1 v2 v3 = some o := h
 unfold br at h
 refine pj fun LQ hn hr he => ?_
 by_cases c1 : v3 < v2
 · rw [if_pos c1] at h
   obtain ⟨y2,hy2,h⟩ := ob h
   have f3 := de hy2
   have f3a := (f3.2.2 (TV.int .i64)).1
   have f3b := (f3.2.2 (TV.int .i64)).2
   try simp only [CL,MC,reduceToNat] at f3 f3a f3b
   obtain ⟨y4,hy4,h⟩ := ob h
   have k5 := zc6h y2 v1 _ hy4
   try simp only [CL,MC,reduceToNat] at k5
   by_cases c6 : y4 = true
   · rw [if_pos c6] at h
     injection h with h; subst h
     obtain rfl : _ = r := ih
     simp -implicitDefEqProofs only [gt,fv,TT,Ic.t,ci,reduceEqDiff,reduceIte,reduceAdd,reduceLT,reduceCtorEq,reduceToNat,hl,ha0,hi0,he,hr,c1,f3.1,f3.2.1,f3a,f3b,k5,c6,CL,LTN]
     exact hQ1 v3 rfl  _ _  (by first | exact kf (Nat.le_refl _) | (simp -implicitDefEqProofs only [TT,Ic.t,ci,reduceEqDiff,reduceIte,reduceAdd,reduceLT,reduceCtorEq,reduceToNat,hl,ha0,hi0,c1,f3.1,f3.2.1,f3a,f3b,k5,c6,CL,LTN]))
   rw [if_neg c6] at h
   have c6 := Bool.eq_false_iff.2 c6
   injection h with h; subst h
   have ih := ih (IntKind.i64.wrap (v3 + (1 : Int))) rfl
   unfold gx at ih
   simp -implicitDefEqProofs only [gt,fv,TT,Ic.t,ci,reduceEqDiff,reduceIte,reduceAdd,reduceLT,reduceCtorEq,reduceToNat,hl,ha0,hi0,c1,f3.1,f3.2.1,f3a,f3b,k5,c6,CL,LTN]
   rw [hn]
   simp -implicitDefEqProofs only [TT,Ic.t,ci,reduceEqDiff,reduceIte,reduceAdd,reduceLT,reduceCtorEq,reduceToNat,hl,ha0,hi0,c1,f3.1,f3.2.1,f3a,f3b,k5,c6,CL,LTN]
   exact ih  τ o0   (by first | assumption | (simp only [ag,ak]; assumption)) (by simp -implicitDefEqProofs only [TT,Ic.t,ci,reduceEqDiff,reduceIte,reduceAdd,reduceLT,reduceCtorEq,reduceToNat,hl,ha0,hi0,c1,f3.1,f3.2.1,f3a,f3b,k5,c6,CL,LTN]) (by first | assumption | (simp only [ag,ak]; assumption)) Q hQ0 hQ1
 rw [if_neg c1] at h
 injection h with h; subst h
 obtain rfl : _ = r := ih
 simp -implicitDefEqProofs only [gt,fv,TT,Ic.t,ci,reduceEqDiff,reduceIte,reduceAdd,reduceLT,reduceCtorEq,reduceToNat,hl,ha0,hi0,he,hr,c1,CL,LTN]
 exact hQ0 () rfl  _ _ _   (by first | rfl | (simp -implicitDefEqProofs only [TT,Ic.t,ci,reduceEqDiff,reduceIte,reduceAdd,reduceLT,reduceCtorEq,reduceToNat,hl,ha0,hi0,c1,CL,LTN])) (by first | exact kf (Nat.le_refl _) | (simp -implicitDefEqProofs only [TT,Ic.t,ci,reduceEqDiff,reduceIte,reduceAdd,reduceLT,reduceCtorEq,reduceToNat,hl,ha0,hi0,c1,CL,LTN]))
def gz (p1 : (List Int)) (p2 : Int) : Option Int :=
 d8 p1 p2 ((p1.length : Nat) : Int) (0 : Int) >>= fun y1 =>
 match y1 with
 | .ex w2 =>
  some (-1 : Int)
 | .rt w4 =>
  some w4
theorem tc (p1 : (List Int)) (p2 : Int) (r : Int) (h : gz p1 p2 = some r) (τ : TH) (o0 : Nat) (hl : τ.lock ≤ τ.next) (ha0 : τ.at o0 = some ⟨u7,[.int .i64 p2]⟩) (hi0 : o0 < τ.next) : Ru G fx [.sl (List.map (TV.int .i64) p1),.func iu [] [.ptr o0 0]] τ (.int .i64 r) τ := by
 refine jv fun K hK => ?_
 rw [bx zc8w (Nat.le_of_ble_eq_true rfl)]
 unfold gz at h
 obtain ⟨y1,hy1,h⟩ := ob h
 simp -implicitDefEqProofs only [fv,TT,Ic.t,ci,reduceEqDiff,reduceIte,reduceAdd,reduceLT,reduceCtorEq,reduceToNat,hl,ha0,hi0,CL,LTN]
 have Sy1 := zc9d p1 p2 ((p1.length : Nat) : Int) (0 : Int) y1 hy1
 unfold gx at Sy1
 refine Sy1 _ o0 (by first | assumption | omega | (simp only [ag,ap,ak,bb]; omega)) (by simp -implicitDefEqProofs only [TT,Ic.t,ci,reduceEqDiff,reduceIte,reduceAdd,reduceLT,reduceCtorEq,reduceToNat,hl,ha0,hi0,CL,LTN]) (by first | assumption | omega | (simp only [ag,ap,ak,bb]; omega)) _ ?_ ?_
 · intro w2 e frq3 tkq3 τq3 htq3 hcq3
   subst e
   simp only at h
   have hcq3 := gc (n := τ.next) hcq3 (by first | omega | (simp only [ag,ap]; omega))
   try simp only [List.take_succ_cons,List.take_zero,List.take_nil,CL] at htq3
   try simp -implicitDefEqProofs only [TT,Ic.t,ci,reduceEqDiff,reduceIte,reduceAdd,reduceLT,reduceCtorEq,reduceToNat,hl,ha0,hi0,CL,LTN] at hcq3
   injection h with h; subst h
   simp -implicitDefEqProofs only [fv,TT,Ic.t,ci,reduceEqDiff,reduceIte,reduceAdd,reduceLT,reduceCtorEq,reduceToNat,hl,ha0,hi0,htq3,hcq3,CL,LTN]
   exact hK
 intro w4 e tkq5 τq5 hcq5
 subst e
 simp only at h
 have hcq5 := gc (n := τ.next) hcq5 (by first | omega | (simp only [ag,ap]; omega))
 try simp -implicitDefEqProofs only [TT,Ic.t,ci,reduceEqDiff,reduceIte,reduceAdd,reduceLT,reduceCtorEq,reduceToNat,hl,ha0,hi0,CL,LTN] at hcq5
 injection h with h; subst h
 simp -implicitDefEqProofs only [fv,TT,Ic.t,ci,reduceEqDiff,reduceIte,reduceAdd,reduceLT,reduceCtorEq,reduceToNat,hl,ha0,hi0,hcq5,CL,LTN]
 exact hK
theorem zc84 (p1 : (List Int)) (p2 : Int) (r : Int) (h : gz p1 p2 = some r) (lk : Bool) (d : Option Nat) (K : av) (fr : TF) (tk : TK) (τ : TH) (o0 : Nat) (hl : τ.lock ≤ τ.next) (ha0 : τ.at o0 = some ⟨u7,[.int .i64 p2]⟩) (hi0 : o0 < τ.next) : fp G lk fx [.sl (List.map (TV.int .i64) p1),.func iu [] [.ptr o0 0]] d K fr tk τ = K (gg fr d (.int .i64 r)) tk τ :=
 bn (tc p1 p2 r h τ o0 hl ha0 hi0) (tc p1 p2 r h (τ.locked τ.next) o0 (Nat.le_refl _) (by rw [zbtx]; exact ha0) hi0) (by simp -implicitDefEqProofs only [TT,Ic.t,ci,reduceEqDiff,reduceIte,reduceAdd,reduceLT,reduceCtorEq,reduceToNat,hl,ha0,hi0,CL,LTN])
def d9 (p1 : (List Int)) (p2 : Int) : Option Bool :=
 gz p1 p2 >>= fun y1 =>
 some (decide ((0 : Int) ≤ y1))
theorem qk (p1 : (List Int)) (p2 : Int) (r : Bool) (h : d9 p1 p2 = some r) (τ : TH) (o0 : Nat) (hl : τ.lock ≤ τ.next) (ha0 : τ.at o0 = some ⟨u7,[.int .i64 p2]⟩) (hi0 : o0 < τ.next) : Ru G ee [.sl (List.map (TV.int .i64) p1),.func iu [] [.ptr o0 0]] τ (.bool r) τ := by
 refine jv fun K hK => ?_
 rw [bx zc87 (Nat.le_of_ble_eq_true rfl)]
 unfold d9 at h
 obtain ⟨y1,hy1,h⟩ := ob h
 have k2 := zc84 p1 p2 _ hy1
 try simp only [CL,MC,reduceToNat] at k2
 injection h with h; subst h
 simp -implicitDefEqProofs only [zc9b,TT,Ic.t,ci,reduceEqDiff,reduceIte,reduceAdd,reduceLT,reduceCtorEq,reduceToNat,hl,ha0,hi0,k2,CL,LTN]
 exact hK
theorem zc9c (p1 : (List Int)) (p2 : Int) (r : Bool) (h : d9 p1 p2 = some r) (lk : Bool) (d : Option Nat) (K : av) (fr : TF) (tk : TK) (τ : TH) (o0 : Nat) (hl : τ.lock ≤ τ.next) (ha0 : τ.at o0 = some ⟨u7,[.int .i64 p2]⟩) (hi0 : o0 < τ.next) : fp G lk ee [.sl (List.map (TV.int .i64) p1),.func iu [] [.ptr o0 0]] d K fr tk τ = K (gg fr d (.bool r)) tk τ :=
 bn (qk p1 p2 r h τ o0 hl ha0 hi0) (qk p1 p2 r h (τ.locked τ.next) o0 (Nat.le_refl _) (by rw [zbtx]; exact ha0) hi0) (by simp -implicitDefEqProofs only [TT,Ic.t,ci,reduceEqDiff,reduceIte,reduceAdd,reduceLT,reduceCtorEq,reduceToNat,hl,ha0,hi0,CL,LTN])
def gi (v0 : aq) (v1 : Int) (v2 : Int) (v4 : (List ac)) (v5 : Int) (v3 : (List ByteArray)) (v6 : Int) : Option (LS ((List ByteArray) × Int) (LX ((List ByteArray)) (Bool))) :=
 if v6 < v5 then
  ixL v4 v6 >>= fun y2 =>
  t7 y2.Account >>= fun y4 =>
  if y4 = true then
   t6 y2.Keys v2 (16 : Int) >>= fun y7 =>
   if y7 = true then
    if (v3.length + 1) * 16 ≤ 140737488355328 then
     some (.nx ((v3 ++ [y2.Account]),(IntKind.i64.wrap (v6 + (1 : Int)))))
    else
     none
   else
   some (.dn (.rt false))
  else
  some (.dn (.rt false))
 else
 some (.dn (.ex v3))
def ny (v0 : aq) (v1 : Int) (v2 : Int) (v4 : (List ac)) (v5 : Int) (v3 : (List ByteArray)) (v6 : Int) : Option (LX ((List ByteArray)) (Bool)) := sq (fun st => gi v0 v1 v2 v4 v5 st.1 st.2) (v3,v6)
theorem zcuw (v0 : aq) (v1 : Int) (v2 : Int) (v4 : (List ac)) (v5 : Int) (v3 : (List ByteArray)) (v6 : Int) : ny v0 v1 v2 v4 v5 v3 v6 = gi v0 v1 v2 v4 v5 v3 v6 >>= LS.go (fun st => ny v0 v1 v2 v4 v5 st.1 st.2) := gy (fun st => gi v0 v1 v2 v4 v5 st.1 st.2) (v3,v6)
def uw (v0 : aq) (v1 : Int) (v2 : Int) (v4 : (List ac)) (v5 : Int) (v3 : (List ByteArray)) (v6 : Int) (r : LX ((List ByteArray)) (Bool)) : Prop := ∀ (τ : TH) (o0 : Nat) (o1 : Nat) (n0 : Nat) (ty0 : TypeId) (hnn0 : n0 = v3.length) (hty0 : n0 = 0 ∨ ty0 = ft) (hl : τ.lock ≤ τ.next) (ha0 : τ.at o0 = some ⟨dk,[.str v0.ID,.sl (List.map ac.tv v0.Parties),.sl (List.map af.tv v0.Arcs),.sl (List.map (TV.int .i64) v0.Leaders),.sl (List.map TV.str v0.Locks),.int .i64 v0.Start,.int .i64 v0.Delta]⟩) (hi0 : o0 < τ.next) (ha1 : τ.at o1 = some ⟨u7,[.int .i64 v1]⟩) (hi1 : o1 < τ.next) (Q : TEx → av) (hQ0 : ∀ v : (List ByteArray),r = (.ex v) → ∀ (fr : TF) (tk2 : TK) (τ2 : TH),∀ (u0 : TypeId),(v.length = 0 ∨ u0 = ft) → lkp fr 1 = .ptr o0 0 → lkp fr 3 = .ptr o1 0 → lkp fr 5 = .sla 0 (List.map TV.str v) → tk2.take 1 = [some (v.length,u0)] → τ2.cut τ.next = τ → Q (.exit 0) fr tk2 τ2) (hQ1 : ∀ v : Bool,r = (.rt v) → ∀ (tk2 : TK) (τ2 : TH),τ2.cut τ.next = τ → Q .ret [(2,.bool v)] tk2 τ2) ,tW G (.loop [1,3,4,5,59,60,61] sn) Q [(1,.ptr o0 0),(3,.ptr o1 0),(4,.int .i64 v2),(5,.sla 0 (List.map TV.str v3)),(59,.sl (List.map ac.tv v4)),(60,.int .i64 v5),(61,.int .i64 v6)] [some (n0,ty0)] τ
theorem zc6x (v0 : aq) (v1 : Int) (v2 : Int) (v4 : (List ac)) (v5 : Int) (v3 : (List ByteArray)) (v6 : Int) (r : LX ((List ByteArray)) (Bool)) (h : ny v0 v1 v2 v4 v5 v3 v6 = some r) : uw v0 v1 v2 v4 v5 v3 v6 r := by
 refine fg (f := fun st => gi v0 v1 v2 v4 v5 st.1 st.2) (P := fun st r => ∀ (v3 : (List ByteArray)) (v6 : Int),(v3,v6) = st → uw v0 v1 v2 v4 v5 v3 v6 r) ?_ h v3 v6 rfl
 clear h r v6 v3
 intro st o h r ih v3 v6 hst τ o0 o1  n0 ty0 hnn0 hty0 hl ha0 hi0 ha1 hi1 Q hQ0 hQ1
 subst hst
 have h : gi v0 v1 v2 v4 v5 v3 v6 = some o := h
 unfold gi at h
 subst hnn0
 refine pj fun LQ hn hr he => ?_
 by_cases c1 : v6 < v5
 · rw [if_pos c1] at h
   obtain ⟨y2,hy2,h⟩ := ob h
   have f3 := de hy2
   have f3a := (f3.2.2 ac.tv).1
   have f3b := (f3.2.2 ac.tv).2
   try simp only [CL,MC,reduceToNat] at f3 f3a f3b
   obtain ⟨y4,hy4,h⟩ := ob h
   have k5 := zcdj y2.Account _ hy4
   try simp only [CL,MC,reduceToNat] at k5
   by_cases c6 : y4 = true
   · rw [if_pos c6] at h
     obtain ⟨y7,hy7,h⟩ := ob h
     have k8 := zcsl y2.Keys v2 (16 : Int) _ hy7
     try simp only [CL,MC,reduceToNat] at k8
     by_cases c9 : y7 = true
     · rw [if_pos c9] at h
       obtain ⟨c10,h⟩ := ifS h
       have f11 : 1 ≤ maxLen := by unfold maxLen; omega
       have f12 : v3.length + 1 ≤ maxLen := by unfold maxLen; omega
       have f13 : ((List.map TV.str v3).all fun e => e.cells.length == 1) = true := zbl7 (fun _ => rfl) _
       have f14 : List.map TV.str v3 ++ List.map TV.str [y2.Account] = List.map TV.str (v3 ++ [y2.Account]) := zbt4 _ _
       try simp only [CL,List.map_cons,List.map_nil] at f14
       injection h with h; subst h
       have ih := ih (v3 ++ [y2.Account]) (IntKind.i64.wrap (v6 + (1 : Int))) rfl
       unfold uw at ih
       simp -implicitDefEqProofs only [lkp.eq_1,oh,og,od,oa,List.isEmpty_cons,iw,fy,tSg,tT,tS,tD,pnT,j6,kh,pnK,n9,kj,List.filter_cons,List.filter_nil,List.filterMap_cons,List.filterMap_nil,cy,gb,qc,fh,Ins.dsts,Ins.looks,I.ops,we,u5,List.all_cons,List.all_nil,List.any_cons,List.any_nil,List.contains_cons,List.contains_nil,List.append_nil,List.nil_append,List.cons_append,Option.toList_some,Option.toList_none,Option.isSome_some,Option.isSome_none,Bool.and_true,Bool.true_and,Bool.and_false,Bool.false_and,Bool.or_false,Bool.false_or,Bool.or_true,Bool.true_or,Bool.not_false,Bool.not_true,and_true,true_and,and_false,false_and,Nat.reduceBEq,bne_iff_ne,sn,di,TT,Ic.t,ci,reduceEqDiff,reduceIte,reduceAdd,reduceMul,reduceLT,reduceLeDiff,reduceSub,reduceCtorEq,reduceEq,reduceNe,reduceToNat,Int.reduceLT,reduceLE,reduceNeg,hl,ha0,hi0,ha1,hi1,hty0,c1,f3.1,f3.2.1,f3a,f3b,k5,c6,k8,c9,c10,f11,f12,f13,f14,CL,LTN]
       rw [hn]
       simp -implicitDefEqProofs only [TT,Ic.t,ci,reduceEqDiff,reduceIte,reduceAdd,reduceMul,reduceLT,reduceLeDiff,reduceSub,reduceCtorEq,reduceEq,reduceNe,reduceToNat,Int.reduceLT,reduceLE,reduceNeg,hl,ha0,hi0,ha1,hi1,hty0,c1,f3.1,f3.2.1,f3a,f3b,k5,c6,k8,c9,c10,f11,f12,f13,f14,CL,LTN]
       exact ih  τ o0 o1  (v3.length + 1) ft (by first | rfl | simp [ay]) (by first | exact hty0 | exact Or.inr rfl | assumption | simp) (by first | assumption | (simp only [ag,ak]; assumption)) (by simp -implicitDefEqProofs only [TT,Ic.t,ci,reduceEqDiff,reduceIte,reduceAdd,reduceMul,reduceLT,reduceLeDiff,reduceSub,reduceCtorEq,reduceEq,reduceNe,reduceToNat,Int.reduceLT,reduceLE,reduceNeg,hl,ha0,hi0,ha1,hi1,hty0,c1,f3.1,f3.2.1,f3a,f3b,k5,c6,k8,c9,c10,f11,f12,f13,f14,CL,LTN]) (by first | assumption | (simp only [ag,ak]; assumption)) (by simp -implicitDefEqProofs only [TT,Ic.t,ci,reduceEqDiff,reduceIte,reduceAdd,reduceMul,reduceLT,reduceLeDiff,reduceSub,reduceCtorEq,reduceEq,reduceNe,reduceToNat,Int.reduceLT,reduceLE,reduceNeg,hl,ha0,hi0,ha1,hi1,hty0,c1,f3.1,f3.2.1,f3a,f3b,k5,c6,k8,c9,c10,f11,f12,f13,f14,CL,LTN]) (by first | assumption | (simp only [ag,ak]; assumption)) Q hQ0 hQ1
     rw [if_neg c9] at h
     have c9 := Bool.eq_false_iff.2 c9
     injection h with h; subst h
     obtain rfl : _ = r := ih
     simp -implicitDefEqProofs only [lkp.eq_1,oh,og,od,oa,List.isEmpty_cons,iw,fy,tSg,tT,tS,tD,pnT,j6,kh,pnK,n9,kj,List.filter_cons,List.filter_nil,List.filterMap_cons,List.filterMap_nil,cy,gb,qc,fh,Ins.dsts,Ins.looks,I.ops,we,u5,List.all_cons,List.all_nil,List.any_cons,List.any_nil,List.contains_cons,List.contains_nil,List.append_nil,List.nil_append,List.cons_append,Option.toList_some,Option.toList_none,Option.isSome_some,Option.isSome_none,Bool.and_true,Bool.true_and,Bool.and_false,Bool.false_and,Bool.or_false,Bool.false_or,Bool.or_true,Bool.true_or,Bool.not_false,Bool.not_true,and_true,true_and,and_false,false_and,Nat.reduceBEq,bne_iff_ne,sn,di,TT,Ic.t,ci,reduceEqDiff,reduceIte,reduceAdd,reduceMul,reduceLT,reduceLeDiff,reduceSub,reduceCtorEq,reduceEq,reduceNe,reduceToNat,Int.reduceLT,reduceLE,reduceNeg,hl,ha0,hi0,ha1,hi1,hty0,he,hr,c1,f3.1,f3.2.1,f3a,f3b,k5,c6,k8,c9,CL,LTN]
     exact hQ1 false rfl  _ _  (by first | exact kf (Nat.le_refl _) | (simp -implicitDefEqProofs only [TT,Ic.t,ci,reduceEqDiff,reduceIte,reduceAdd,reduceMul,reduceLT,reduceLeDiff,reduceSub,reduceCtorEq,reduceEq,reduceNe,reduceToNat,Int.reduceLT,reduceLE,reduceNeg,hl,ha0,hi0,ha1,hi1,hty0,c1,f3.1,f3.2.1,f3a,f3b,k5,c6,k8,c9,CL,LTN]))
   rw [if_neg c6] at h
   have c6 := Bool.eq_false_iff.2 c6
   injection h with h; subst h
   obtain rfl : _ = r := ih
   simp -implicitDefEqProofs only [lkp.eq_1,oh,og,od,oa,List.isEmpty_cons,iw,fy,tSg,tT,tS,tD,pnT,j6,kh,pnK,n9,kj,List.filter_cons,List.filter_nil,List.filterMap_cons,List.filterMap_nil,cy,gb,qc,fh,Ins.dsts,Ins.looks,I.ops,we,u5,List.all_cons,List.all_nil,List.any_cons,List.any_nil,List.contains_cons,List.contains_nil,List.append_nil,List.nil_append,List.cons_append,Option.toList_some,Option.toList_none,Option.isSome_some,Option.isSome_none,Bool.and_true,Bool.true_and,Bool.and_false,Bool.false_and,Bool.or_false,Bool.false_or,Bool.or_true,Bool.true_or,Bool.not_false,Bool.not_true,and_true,true_and,and_false,false_and,Nat.reduceBEq,bne_iff_ne,sn,di,TT,Ic.t,ci,reduceEqDiff,reduceIte,reduceAdd,reduceMul,reduceLT,reduceLeDiff,reduceSub,reduceCtorEq,reduceEq,reduceNe,reduceToNat,Int.reduceLT,reduceLE,reduceNeg,hl,ha0,hi0,ha1,hi1,hty0,he,hr,c1,f3.1,f3.2.1,f3a,f3b,k5,c6,CL,LTN]
   exact hQ1 false rfl  _ _  (by first | exact kf (Nat.le_refl _) | (simp -implicitDefEqProofs only [TT,Ic.t,ci,reduceEqDiff,reduceIte,reduceAdd,reduceMul,reduceLT,reduceLeDiff,reduceSub,reduceCtorEq,reduceEq,reduceNe,reduceToNat,Int.reduceLT,reduceLE,reduceNeg,hl,ha0,hi0,ha1,hi1,hty0,c1,f3.1,f3.2.1,f3a,f3b,k5,c6,CL,LTN]))
 rw [if_neg c1] at h
 injection h with h; subst h
 obtain rfl : _ = r := ih
 simp -implicitDefEqProofs only [lkp.eq_1,oh,og,od,oa,List.isEmpty_cons,iw,fy,tSg,tT,tS,tD,pnT,j6,kh,pnK,n9,kj,List.filter_cons,List.filter_nil,List.filterMap_cons,List.filterMap_nil,cy,gb,qc,fh,Ins.dsts,Ins.looks,I.ops,we,u5,List.all_cons,List.all_nil,List.any_cons,List.any_nil,List.contains_cons,List.contains_nil,List.append_nil,List.nil_append,List.cons_append,Option.toList_some,Option.toList_none,Option.isSome_some,Option.isSome_none,Bool.and_true,Bool.true_and,Bool.and_false,Bool.false_and,Bool.or_false,Bool.false_or,Bool.or_true,Bool.true_or,Bool.not_false,Bool.not_true,and_true,true_and,and_false,false_and,Nat.reduceBEq,bne_iff_ne,sn,di,TT,Ic.t,ci,reduceEqDiff,reduceIte,reduceAdd,reduceMul,reduceLT,reduceLeDiff,reduceSub,reduceCtorEq,reduceEq,reduceNe,reduceToNat,Int.reduceLT,reduceLE,reduceNeg,hl,ha0,hi0,ha1,hi1,hty0,he,hr,c1,CL,LTN]
 exact hQ0 v3 rfl  _ _ _ ty0 (by first | exact hty0 | exact Or.inr rfl | assumption | simp) (by first | rfl | (simp -implicitDefEqProofs only [TT,Ic.t,ci,reduceEqDiff,reduceIte,reduceAdd,reduceMul,reduceLT,reduceLeDiff,reduceSub,reduceCtorEq,reduceEq,reduceNe,reduceToNat,Int.reduceLT,reduceLE,reduceNeg,hl,ha0,hi0,ha1,hi1,hty0,c1,CL,LTN])) (by first | rfl | (simp -implicitDefEqProofs only [TT,Ic.t,ci,reduceEqDiff,reduceIte,reduceAdd,reduceMul,reduceLT,reduceLeDiff,reduceSub,reduceCtorEq,reduceEq,reduceNe,reduceToNat,Int.reduceLT,reduceLE,reduceNeg,hl,ha0,hi0,ha1,hi1,hty0,c1,CL,LTN])) (by first | rfl | (simp -implicitDefEqProofs only [TT,Ic.t,ci,reduceEqDiff,reduceIte,reduceAdd,reduceMul,reduceLT,reduceLeDiff,reduceSub,reduceCtorEq,reduceEq,reduceNe,reduceToNat,Int.reduceLT,reduceLE,reduceNeg,hl,ha0,hi0,ha1,hi1,hty0,c1,CL,LTN])) (by first | rfl | (simp -implicitDefEqProofs only [TT,Ic.t,ci,reduceEqDiff,reduceIte,reduceAdd,reduceMul,reduceLT,reduceLeDiff,reduceSub,reduceCtorEq,reduceEq,reduceNe,reduceToNat,Int.reduceLT,reduceLE,reduceNeg,hl,ha0,hi0,ha1,hi1,hty0,c1,CL,LTN])) (by first | exact kf (Nat.le_refl _) | (simp -implicitDefEqProofs only [TT,Ic.t,ci,reduceEqDiff,reduceIte,reduceAdd,reduceMul,reduceLT,reduceLeDiff,reduceSub,reduceCtorEq,reduceEq,reduceNe,reduceToNat,Int.reduceLT,reduceLE,reduceNeg,hl,ha0,hi0,ha1,hi1,hty0,c1,CL,LTN]))
def gh (v0 : aq) (v1 : Int) (v2 : (List ByteArray)) (v4 : (List af)) (v5 : Int) (v3 : (List fo)) (v6 : Int) : Option (LS ((List fo) × Int) (LX ((List fo)) (Bool))) :=
 if v6 < v5 then
  ixL v4 v6 >>= fun y2 =>
  zb3f (⟨y2.From,y2.To,y2.Ledger,y2.Asset,y2.Amount⟩ : af) v1 >>= fun y4 =>
  if y4 = true then
   if (v3.length + 1) * 16 ≤ 140737488355328 then
    some (.nx ((v3 ++ [(⟨y2.From,y2.To⟩ : fo)]),(IntKind.i64.wrap (v6 + (1 : Int)))))
   else
    none
  else
  some (.dn (.rt false))
 else
 some (.dn (.ex v3))
def l4 (v0 : aq) (v1 : Int) (v2 : (List ByteArray)) (v4 : (List af)) (v5 : Int) (v3 : (List fo)) (v6 : Int) : Option (LX ((List fo)) (Bool)) := sq (fun st => gh v0 v1 v2 v4 v5 st.1 st.2) (v3,v6)
theorem zcux (v0 : aq) (v1 : Int) (v2 : (List ByteArray)) (v4 : (List af)) (v5 : Int) (v3 : (List fo)) (v6 : Int) : l4 v0 v1 v2 v4 v5 v3 v6 = gh v0 v1 v2 v4 v5 v3 v6 >>= LS.go (fun st => l4 v0 v1 v2 v4 v5 st.1 st.2) := gy (fun st => gh v0 v1 v2 v4 v5 st.1 st.2) (v3,v6)
def uv (v0 : aq) (v1 : Int) (v2 : (List ByteArray)) (v4 : (List af)) (v5 : Int) (v3 : (List fo)) (v6 : Int) (r : LX ((List fo)) (Bool)) : Prop := ∀ (τ : TH) (o0 : Nat) (o1 : Nat) (n0 : Nat) (ty0 : TypeId) (hnn0 : n0 = v2.length) (hty0 : n0 = 0 ∨ ty0 = ft) (n1 : Nat) (ty1 : TypeId) (hnn1 : n1 = v3.length) (hty1 : n1 = 0 ∨ ty1 = qu) (hl : τ.lock ≤ τ.next) (ha0 : τ.at o0 = some ⟨dk,[.str v0.ID,.sl (List.map ac.tv v0.Parties),.sl (List.map af.tv v0.Arcs),.sl (List.map (TV.int .i64) v0.Leaders),.sl (List.map TV.str v0.Locks),.int .i64 v0.Start,.int .i64 v0.Delta]⟩) (hi0 : o0 < τ.next) (ha1 : τ.at o1 = some ⟨u7,[.int .i64 v1]⟩) (hi1 : o1 < τ.next) (Q : TEx → av) (hQ0 : ∀ v : (List fo),r = (.ex v) → ∀ (fr : TF) (tk2 : TK) (τ2 : TH),∀ (u0 : TypeId),(v2.length = 0 ∨ u0 = ft) → ∀ (u1 : TypeId),(v.length = 0 ∨ u1 = qu) → lkp fr 1 = .ptr o0 0 → lkp fr 3 = .ptr o1 0 → lkp fr 5 = .sla 0 (List.map TV.str v2) → lkp fr 8 = .sla 1 (List.map fo.tv v) → tk2.take 2 = [some (v2.length,u0),some (v.length,u1)] → τ2.cut τ.next = τ → Q (.exit 2) fr tk2 τ2) (hQ1 : ∀ v : Bool,r = (.rt v) → ∀ (tk2 : TK) (τ2 : TH),τ2.cut τ.next = τ → Q .ret [(2,.bool v)] tk2 τ2) ,tW G (.loop [1,3,5,8,83,84,85] ww) Q [(1,.ptr o0 0),(3,.ptr o1 0),(5,.sla 0 (List.map TV.str v2)),(8,.sla 1 (List.map fo.tv v3)),(83,.sl (List.map af.tv v4)),(84,.int .i64 v5),(85,.int .i64 v6)] [some (n0,ty0),some (n1,ty1)] τ
theorem zc6y (v0 : aq) (v1 : Int) (v2 : (List ByteArray)) (v4 : (List af)) (v5 : Int) (v3 : (List fo)) (v6 : Int) (r : LX ((List fo)) (Bool)) (h : l4 v0 v1 v2 v4 v5 v3 v6 = some r) : uv v0 v1 v2 v4 v5 v3 v6 r := by
 refine fg (f := fun st => gh v0 v1 v2 v4 v5 st.1 st.2) (P := fun st r => ∀ (v3 : (List fo)) (v6 : Int),(v3,v6) = st → uv v0 v1 v2 v4 v5 v3 v6 r) ?_ h v3 v6 rfl
 clear h r v6 v3
 intro st o h r ih v3 v6 hst τ o0 o1  n0 ty0 hnn0 hty0 n1 ty1 hnn1 hty1 hl ha0 hi0 ha1 hi1 Q hQ0 hQ1
 subst hst
 have h : gh v0 v1 v2 v4 v5 v3 v6 = some o := h
 unfold gh at h
 subst hnn0
 subst hnn1
 refine pj fun LQ hn hr he => ?_
 by_cases c1 : v6 < v5
 · rw [if_pos c1] at h
   obtain ⟨y2,hy2,h⟩ := ob h
   have f3 := de hy2
   have f3a := (f3.2.2 af.tv).1
   have f3b := (f3.2.2 af.tv).2
   try simp only [CL,MC,reduceToNat] at f3 f3a f3b
   obtain ⟨y4,hy4,h⟩ := ob h
   have k5 := zc96 (⟨y2.From,y2.To,y2.Ledger,y2.Asset,y2.Amount⟩ : af) v1 _ hy4
   try simp only [CL,MC,reduceToNat] at k5
   by_cases c6 : y4 = true
   · rw [if_pos c6] at h
     obtain ⟨c7,h⟩ := ifS h
     have f8 : 1 ≤ maxLen := by unfold maxLen; omega
     have f9 : v3.length + 1 ≤ maxLen := by unfold maxLen; omega
     have f10 : ((List.map fo.tv v3).all fun e => e.cells.length == 2) = true := zbl7 (fun _ => rfl) _
     have f11 : List.map fo.tv v3 ++ List.map fo.tv [(⟨y2.From,y2.To⟩ : fo)] = List.map fo.tv (v3 ++ [(⟨y2.From,y2.To⟩ : fo)]) := zbt4 _ _
     try simp only [CL,List.map_cons,List.map_nil] at f11
     injection h with h; subst h
     have ih := ih (v3 ++ [(⟨y2.From,y2.To⟩ : fo)]) (IntKind.i64.wrap (v6 + (1 : Int))) rfl
     unfold uv at ih
     simp -implicitDefEqProofs only [lkp.eq_1,oh,og,od,oa,List.isEmpty_cons,iw,fy,tSg,tT,tS,tD,pnT,j6,kh,pnK,n9,kj,List.filter_cons,List.filter_nil,List.filterMap_cons,List.filterMap_nil,cy,gb,qc,fh,Ins.dsts,Ins.looks,I.ops,we,u5,List.all_cons,List.all_nil,List.any_cons,List.any_nil,List.contains_cons,List.contains_nil,List.append_nil,List.nil_append,List.cons_append,Option.toList_some,Option.toList_none,Option.isSome_some,Option.isSome_none,Bool.and_true,Bool.true_and,Bool.and_false,Bool.false_and,Bool.or_false,Bool.false_or,Bool.or_true,Bool.true_or,Bool.not_false,Bool.not_true,and_true,true_and,and_false,false_and,Nat.reduceBEq,bne_iff_ne,ww,di,TT,Ic.t,ci,reduceEqDiff,reduceIte,reduceAdd,reduceMul,reduceLT,reduceLeDiff,reduceSub,reduceCtorEq,reduceEq,reduceNe,reduceToNat,Int.reduceLT,reduceLE,reduceNeg,hl,ha0,hi0,ha1,hi1,hty0,hty1,c1,f3.1,f3.2.1,f3a,f3b,k5,c6,c7,f8,f9,f10,f11,CL,LTN]
     rw [hn]
     simp -implicitDefEqProofs only [TT,Ic.t,ci,reduceEqDiff,reduceIte,reduceAdd,reduceMul,reduceLT,reduceLeDiff,reduceSub,reduceCtorEq,reduceEq,reduceNe,reduceToNat,Int.reduceLT,reduceLE,reduceNeg,hl,ha0,hi0,ha1,hi1,hty0,hty1,c1,f3.1,f3.2.1,f3a,f3b,k5,c6,c7,f8,f9,f10,f11,CL,LTN]
     exact ih  τ o0 o1  _ ty0 (by first | rfl | simp [ay]) (by first | exact hty0 | exact Or.inr rfl | assumption | simp) (v3.length + 1) qu (by first | rfl | simp [ay]) (by first | exact hty1 | exact Or.inr rfl | assumption | simp) (by first | assumption | (simp only [ag,ak]; assumption)) (by simp -implicitDefEqProofs only [TT,Ic.t,ci,reduceEqDiff,reduceIte,reduceAdd,reduceMul,reduceLT,reduceLeDiff,reduceSub,reduceCtorEq,reduceEq,reduceNe,reduceToNat,Int.reduceLT,reduceLE,reduceNeg,hl,ha0,hi0,ha1,hi1,hty0,hty1,c1,f3.1,f3.2.1,f3a,f3b,k5,c6,c7,f8,f9,f10,f11,CL,LTN]) (by first | assumption | (simp only [ag,ak]; assumption)) (by simp -implicitDefEqProofs only [TT,Ic.t,ci,reduceEqDiff,reduceIte,reduceAdd,reduceMul,reduceLT,reduceLeDiff,reduceSub,reduceCtorEq,reduceEq,reduceNe,reduceToNat,Int.reduceLT,reduceLE,reduceNeg,hl,ha0,hi0,ha1,hi1,hty0,hty1,c1,f3.1,f3.2.1,f3a,f3b,k5,c6,c7,f8,f9,f10,f11,CL,LTN]) (by first | assumption | (simp only [ag,ak]; assumption)) Q hQ0 hQ1
   rw [if_neg c6] at h
   have c6 := Bool.eq_false_iff.2 c6
   injection h with h; subst h
   obtain rfl : _ = r := ih
   simp -implicitDefEqProofs only [lkp.eq_1,oh,og,od,oa,List.isEmpty_cons,iw,fy,tSg,tT,tS,tD,pnT,j6,kh,pnK,n9,kj,List.filter_cons,List.filter_nil,List.filterMap_cons,List.filterMap_nil,cy,gb,qc,fh,Ins.dsts,Ins.looks,I.ops,we,u5,List.all_cons,List.all_nil,List.any_cons,List.any_nil,List.contains_cons,List.contains_nil,List.append_nil,List.nil_append,List.cons_append,Option.toList_some,Option.toList_none,Option.isSome_some,Option.isSome_none,Bool.and_true,Bool.true_and,Bool.and_false,Bool.false_and,Bool.or_false,Bool.false_or,Bool.or_true,Bool.true_or,Bool.not_false,Bool.not_true,and_true,true_and,and_false,false_and,Nat.reduceBEq,bne_iff_ne,ww,di,TT,Ic.t,ci,reduceEqDiff,reduceIte,reduceAdd,reduceMul,reduceLT,reduceLeDiff,reduceSub,reduceCtorEq,reduceEq,reduceNe,reduceToNat,Int.reduceLT,reduceLE,reduceNeg,hl,ha0,hi0,ha1,hi1,hty0,hty1,he,hr,c1,f3.1,f3.2.1,f3a,f3b,k5,c6,CL,LTN]
   exact hQ1 false rfl  _ _  (by first | exact kf (Nat.le_refl _) | (simp -implicitDefEqProofs only [TT,Ic.t,ci,reduceEqDiff,reduceIte,reduceAdd,reduceMul,reduceLT,reduceLeDiff,reduceSub,reduceCtorEq,reduceEq,reduceNe,reduceToNat,Int.reduceLT,reduceLE,reduceNeg,hl,ha0,hi0,ha1,hi1,hty0,hty1,c1,f3.1,f3.2.1,f3a,f3b,k5,c6,CL,LTN]))
 rw [if_neg c1] at h
 injection h with h; subst h
 obtain rfl : _ = r := ih
 simp -implicitDefEqProofs only [lkp.eq_1,oh,og,od,oa,List.isEmpty_cons,iw,fy,tSg,tT,tS,tD,pnT,j6,kh,pnK,n9,kj,List.filter_cons,List.filter_nil,List.filterMap_cons,List.filterMap_nil,cy,gb,qc,fh,Ins.dsts,Ins.looks,I.ops,we,u5,List.all_cons,List.all_nil,List.any_cons,List.any_nil,List.contains_cons,List.contains_nil,List.append_nil,List.nil_append,List.cons_append,Option.toList_some,Option.toList_none,Option.isSome_some,Option.isSome_none,Bool.and_true,Bool.true_and,Bool.and_false,Bool.false_and,Bool.or_false,Bool.false_or,Bool.or_true,Bool.true_or,Bool.not_false,Bool.not_true,and_true,true_and,and_false,false_and,Nat.reduceBEq,bne_iff_ne,ww,di,TT,Ic.t,ci,reduceEqDiff,reduceIte,reduceAdd,reduceMul,reduceLT,reduceLeDiff,reduceSub,reduceCtorEq,reduceEq,reduceNe,reduceToNat,Int.reduceLT,reduceLE,reduceNeg,hl,ha0,hi0,ha1,hi1,hty0,hty1,he,hr,c1,CL,LTN]
 exact hQ0 v3 rfl  _ _ _ ty0 (by first | exact hty0 | exact Or.inr rfl | assumption | simp) ty1 (by first | exact hty1 | exact Or.inr rfl | assumption | simp) (by first | rfl | (simp -implicitDefEqProofs only [TT,Ic.t,ci,reduceEqDiff,reduceIte,reduceAdd,reduceMul,reduceLT,reduceLeDiff,reduceSub,reduceCtorEq,reduceEq,reduceNe,reduceToNat,Int.reduceLT,reduceLE,reduceNeg,hl,ha0,hi0,ha1,hi1,hty0,hty1,c1,CL,LTN])) (by first | rfl | (simp -implicitDefEqProofs only [TT,Ic.t,ci,reduceEqDiff,reduceIte,reduceAdd,reduceMul,reduceLT,reduceLeDiff,reduceSub,reduceCtorEq,reduceEq,reduceNe,reduceToNat,Int.reduceLT,reduceLE,reduceNeg,hl,ha0,hi0,ha1,hi1,hty0,hty1,c1,CL,LTN])) (by first | rfl | (simp -implicitDefEqProofs only [TT,Ic.t,ci,reduceEqDiff,reduceIte,reduceAdd,reduceMul,reduceLT,reduceLeDiff,reduceSub,reduceCtorEq,reduceEq,reduceNe,reduceToNat,Int.reduceLT,reduceLE,reduceNeg,hl,ha0,hi0,ha1,hi1,hty0,hty1,c1,CL,LTN])) (by first | rfl | (simp -implicitDefEqProofs only [TT,Ic.t,ci,reduceEqDiff,reduceIte,reduceAdd,reduceMul,reduceLT,reduceLeDiff,reduceSub,reduceCtorEq,reduceEq,reduceNe,reduceToNat,Int.reduceLT,reduceLE,reduceNeg,hl,ha0,hi0,ha1,hi1,hty0,hty1,c1,CL,LTN])) (by first | rfl | (simp -implicitDefEqProofs only [TT,Ic.t,ci,reduceEqDiff,reduceIte,reduceAdd,reduceMul,reduceLT,reduceLeDiff,reduceSub,reduceCtorEq,reduceEq,reduceNe,reduceToNat,Int.reduceLT,reduceLE,reduceNeg,hl,ha0,hi0,ha1,hi1,hty0,hty1,c1,CL,LTN])) (by first | exact kf (Nat.le_refl _) | (simp -implicitDefEqProofs only [TT,Ic.t,ci,reduceEqDiff,reduceIte,reduceAdd,reduceMul,reduceLT,reduceLeDiff,reduceSub,reduceCtorEq,reduceEq,reduceNe,reduceToNat,Int.reduceLT,reduceLE,reduceNeg,hl,ha0,hi0,ha1,hi1,hty0,hty1,c1,CL,LTN]))
def l5 (p1 : aq) : Option Bool :=
 t7 p1.ID >>= fun y1 =>
 if y1 = true then
  nw ((p1.Parties.length : Nat) : Int) (2 : Int) (6 : Int) >>= fun y4 =>
  if y4 = true then
   nw ((p1.Leaders.length : Nat) : Int) (1 : Int) (3 : Int) >>= fun y7 =>
   if y7 = true then
    nw ((p1.Arcs.length : Nat) : Int) (1 : Int) (12 : Int) >>= fun y10 =>
    if y10 = true then
     t6 p1.Locks ((p1.Leaders.length : Nat) : Int) (32 : Int) >>= fun y13 =>
     if y13 = true then
      nw p1.Start (0 : Int) (1099511627776 : Int) >>= fun y16 =>
      if y16 = true then
       nw p1.Delta (1 : Int) (1048576 : Int) >>= fun y19 =>
       if y19 = true then
        ny p1 ((p1.Parties.length : Nat) : Int) ((p1.Leaders.length : Nat) : Int) p1.Parties ((p1.Parties.length : Nat) : Int) [] (0 : Int) >>= fun y22 =>
        match y22 with
        | .ex w23 =>
         l4 p1 ((p1.Parties.length : Nat) : Int) w23 p1.Arcs ((p1.Arcs.length : Nat) : Int) [] (0 : Int) >>= fun y27 =>
         match y27 with
         | .ex w28 =>
          o8 w23 >>= fun y32 =>
          if y32 = true then
           uq w28 >>= fun y35 =>
           if y35 = true then
            zb9t p1.Leaders >>= fun y38 =>
            if y38 = true then
             d9 p1.Leaders ((p1.Parties.length : Nat) : Int) >>= fun y41 =>
             some (!y41)
            else
            some false
           else
           some false
          else
          some false
         | .rt w30 =>
          some w30
        | .rt w25 =>
         some w25
       else
       some false
      else
      some false
     else
     some false
    else
    some false
   else
   some false
  else
  some false
 else
 some false
theorem zcsk (p1 : aq) (r : Bool) (h : l5 p1 = some r) (τ : TH) (hl : τ.lock ≤ τ.next) : Ru G pi [.agg [.str p1.ID,.sl (List.map ac.tv p1.Parties),.sl (List.map af.tv p1.Arcs),.sl (List.map (TV.int .i64) p1.Leaders),.sl (List.map TV.str p1.Locks),.int .i64 p1.Start,.int .i64 p1.Delta]] τ (.bool r) τ := by
 refine jv fun K hK => ?_
 rw [bx zc91 (Nat.le_of_ble_eq_true rfl)]
 unfold l5 at h
 obtain ⟨y1,hy1,h⟩ := ob h
 have k2 := zcdj p1.ID _ hy1
 try simp only [CL,MC,reduceToNat] at k2
 by_cases c3 : y1 = true
 · rw [if_pos c3] at h
   obtain ⟨y4,hy4,h⟩ := ob h
   have k5 := pk ((p1.Parties.length : Nat) : Int) (2 : Int) (6 : Int) _ hy4
   try simp only [CL,MC,reduceToNat] at k5
   by_cases c6 : y4 = true
   · rw [if_pos c6] at h
     obtain ⟨y7,hy7,h⟩ := ob h
     have k8 := pk ((p1.Leaders.length : Nat) : Int) (1 : Int) (3 : Int) _ hy7
     try simp only [CL,MC,reduceToNat] at k8
     by_cases c9 : y7 = true
     · rw [if_pos c9] at h
       obtain ⟨y10,hy10,h⟩ := ob h
       have k11 := pk ((p1.Arcs.length : Nat) : Int) (1 : Int) (12 : Int) _ hy10
       try simp only [CL,MC,reduceToNat] at k11
       by_cases c12 : y10 = true
       · rw [if_pos c12] at h
         obtain ⟨y13,hy13,h⟩ := ob h
         have k14 := zcsl p1.Locks ((p1.Leaders.length : Nat) : Int) (32 : Int) _ hy13
         try simp only [CL,MC,reduceToNat] at k14
         by_cases c15 : y13 = true
         · rw [if_pos c15] at h
           obtain ⟨y16,hy16,h⟩ := ob h
           have k17 := pk p1.Start (0 : Int) (1099511627776 : Int) _ hy16
           try simp only [CL,MC,reduceToNat] at k17
           by_cases c18 : y16 = true
           · rw [if_pos c18] at h
             obtain ⟨y19,hy19,h⟩ := ob h
             have k20 := pk p1.Delta (1 : Int) (1048576 : Int) _ hy19
             try simp only [CL,MC,reduceToNat] at k20
             by_cases c21 : y19 = true
             · rw [if_pos c21] at h
               obtain ⟨y22,hy22,h⟩ := ob h
               simp -implicitDefEqProofs only [lkp.eq_1,oh,og,od,oa,List.isEmpty_cons,iw,fy,tSg,tT,tS,tD,pnT,j6,kh,pnK,n9,kj,List.filter_cons,List.filter_nil,List.filterMap_cons,List.filterMap_nil,cy,gb,qc,fh,Ins.dsts,Ins.looks,I.ops,we,u5,List.all_cons,List.all_nil,List.any_cons,List.any_nil,List.contains_cons,List.contains_nil,List.append_nil,List.nil_append,List.cons_append,Option.toList_some,Option.toList_none,Option.isSome_some,Option.isSome_none,Bool.and_true,Bool.true_and,Bool.and_false,Bool.false_and,Bool.or_false,Bool.false_or,Bool.or_true,Bool.true_or,Bool.not_false,Bool.not_true,and_true,true_and,and_false,false_and,Nat.reduceBEq,bne_iff_ne,di,TT,Ic.t,ci,reduceEqDiff,reduceIte,reduceAdd,reduceLT,reduceCtorEq,reduceToNat,hl,k2,c3,k5,c6,k8,c9,k11,c12,k14,c15,k17,c18,k20,c21,CL,LTN]
               have Sy22 := zc6x p1 ((p1.Parties.length : Nat) : Int) ((p1.Leaders.length : Nat) : Int) p1.Parties ((p1.Parties.length : Nat) : Int) [] (0 : Int) y22 hy22
               unfold uw at Sy22
               refine Sy22 _ τ.next (τ.next + 1) 0 0 (by first | rfl | simp [ay]) (by first | exact Or.inl rfl | exact Or.inr rfl | assumption | simp) (by first | assumption | omega | (simp only [ag,ap,ak,bb]; omega)) (by simp -implicitDefEqProofs only [TT,Ic.t,ci,reduceEqDiff,reduceIte,reduceAdd,reduceLT,reduceCtorEq,reduceToNat,hl,k2,c3,k5,c6,k8,c9,k11,c12,k14,c15,k17,c18,k20,c21,CL,LTN]) (by first | assumption | omega | (simp only [ag,ap,ak,bb]; omega)) (by simp -implicitDefEqProofs only [TT,Ic.t,ci,reduceEqDiff,reduceIte,reduceAdd,reduceLT,reduceCtorEq,reduceToNat,hl,k2,c3,k5,c6,k8,c9,k11,c12,k14,c15,k17,c18,k20,c21,CL,LTN]) (by first | assumption | omega | (simp only [ag,ap,ak,bb]; omega)) _ ?_ ?_
               · intro w23 e frq24 tkq24 τq24 u0q24 uh0q24 g1q24 g3q24 g5q24 htq24 hcq24
                 subst e
                 simp only at h
                 have hcq24 := gc (n := τ.next + 2) hcq24 (by first | omega | (simp only [ag,ap]; omega))
                 try simp only [List.take_succ_cons,List.take_zero,List.take_nil,CL] at htq24
                 try simp -implicitDefEqProofs only [TT,Ic.t,ci,reduceEqDiff,reduceIte,reduceAdd,reduceLT,reduceCtorEq,reduceToNat,hl,k2,c3,k5,c6,k8,c9,k11,c12,k14,c15,k17,c18,k20,c21,CL,LTN] at hcq24
                 obtain ⟨y27,hy27,h⟩ := ob h
                 simp -implicitDefEqProofs only [lkp.eq_1,oh,og,od,oa,List.isEmpty_cons,iw,fy,tSg,tT,tS,tD,pnT,j6,kh,pnK,n9,kj,List.filter_cons,List.filter_nil,List.filterMap_cons,List.filterMap_nil,cy,gb,qc,fh,Ins.dsts,Ins.looks,I.ops,we,u5,List.all_cons,List.all_nil,List.any_cons,List.any_nil,List.contains_cons,List.contains_nil,List.append_nil,List.nil_append,List.cons_append,Option.toList_some,Option.toList_none,Option.isSome_some,Option.isSome_none,Bool.and_true,Bool.true_and,Bool.and_false,Bool.false_and,Bool.or_false,Bool.false_or,Bool.or_true,Bool.true_or,Bool.not_false,Bool.not_true,and_true,true_and,and_false,false_and,Nat.reduceBEq,bne_iff_ne,di,TT,Ic.t,ci,reduceEqDiff,reduceIte,reduceAdd,reduceLT,reduceCtorEq,reduceToNat,hl,k2,c3,k5,c6,k8,c9,k11,c12,k14,c15,k17,c18,k20,c21,uh0q24,g1q24,g3q24,g5q24,htq24,hcq24,CL,LTN]
                 have Sy27 := zc6y p1 ((p1.Parties.length : Nat) : Int) w23 p1.Arcs ((p1.Arcs.length : Nat) : Int) [] (0 : Int) y27 hy27
                 unfold uv at Sy27
                 refine Sy27 _ τ.next (τ.next + 1) w23.length u0q24 (by first | rfl | simp [ay]) (by first | exact Or.inl rfl | exact Or.inr rfl | assumption | simp) 0 0 (by first | rfl | simp [ay]) (by first | exact Or.inl rfl | exact Or.inr rfl | assumption | simp) (by first | assumption | omega | (simp only [ag,ap,ak,bb]; omega)) (by simp -implicitDefEqProofs only [TT,Ic.t,ci,reduceEqDiff,reduceIte,reduceAdd,reduceLT,reduceCtorEq,reduceToNat,hl,k2,c3,k5,c6,k8,c9,k11,c12,k14,c15,k17,c18,k20,c21,uh0q24,g1q24,g3q24,g5q24,htq24,hcq24,CL,LTN]) (by first | assumption | omega | (simp only [ag,ap,ak,bb]; omega)) (by simp -implicitDefEqProofs only [TT,Ic.t,ci,reduceEqDiff,reduceIte,reduceAdd,reduceLT,reduceCtorEq,reduceToNat,hl,k2,c3,k5,c6,k8,c9,k11,c12,k14,c15,k17,c18,k20,c21,uh0q24,g1q24,g3q24,g5q24,htq24,hcq24,CL,LTN]) (by first | assumption | omega | (simp only [ag,ap,ak,bb]; omega)) _ ?_ ?_
                 · intro w28 e frq29 tkq29 τq29 u0q29 uh0q29 u1q29 uh1q29 g1q29 g3q29 g5q29 g8q29 htq29 hcq29
                   subst e
                   simp only at h
                   have hcq29 := gc (n := τ.next + 2) hcq29 (by first | omega | (simp only [ag,ap]; omega))
                   try simp only [List.take_succ_cons,List.take_zero,List.take_nil,CL] at htq29
                   try simp -implicitDefEqProofs only [TT,Ic.t,ci,reduceEqDiff,reduceIte,reduceAdd,reduceLT,reduceCtorEq,reduceToNat,hl,k2,c3,k5,c6,k8,c9,k11,c12,k14,c15,k17,c18,k20,c21,uh0q24,g1q24,g3q24,g5q24,htq24,hcq24,CL,LTN] at hcq29
                   obtain ⟨y32,hy32,h⟩ := ob h
                   have k33 := zc75 w23 _ hy32
                   try simp only [CL,MC,reduceToNat] at k33
                   by_cases c34 : y32 = true
                   · rw [if_pos c34] at h
                     obtain ⟨y35,hy35,h⟩ := ob h
                     have k36 := zc7q w28 _ hy35
                     try simp only [CL,MC,reduceToNat] at k36
                     by_cases c37 : y35 = true
                     · rw [if_pos c37] at h
                       obtain ⟨y38,hy38,h⟩ := ob h
                       have k39 := zc60 p1.Leaders _ hy38
                       try simp only [CL,MC,reduceToNat] at k39
                       by_cases c40 : y38 = true
                       · rw [if_pos c40] at h
                         obtain ⟨y41,hy41,h⟩ := ob h
                         have k42 := zc9c p1.Leaders ((p1.Parties.length : Nat) : Int) _ hy41
                         try simp only [CL,MC,reduceToNat] at k42
                         injection h with h; subst h
                         simp -implicitDefEqProofs only [lkp.eq_1,oh,og,od,oa,List.isEmpty_cons,iw,fy,tSg,tT,tS,tD,pnT,j6,kh,pnK,n9,kj,List.filter_cons,List.filter_nil,List.filterMap_cons,List.filterMap_nil,cy,gb,qc,fh,Ins.dsts,Ins.looks,I.ops,we,u5,List.all_cons,List.all_nil,List.any_cons,List.any_nil,List.contains_cons,List.contains_nil,List.append_nil,List.nil_append,List.cons_append,Option.toList_some,Option.toList_none,Option.isSome_some,Option.isSome_none,Bool.and_true,Bool.true_and,Bool.and_false,Bool.false_and,Bool.or_false,Bool.false_or,Bool.or_true,Bool.true_or,Bool.not_false,Bool.not_true,and_true,true_and,and_false,false_and,Nat.reduceBEq,bne_iff_ne,di,TT,Ic.t,ci,reduceEqDiff,reduceIte,reduceAdd,reduceLT,reduceCtorEq,reduceToNat,hl,k2,c3,k5,c6,k8,c9,k11,c12,k14,c15,k17,c18,k20,c21,uh0q24,g1q24,g3q24,g5q24,htq24,hcq24,uh0q29,uh1q29,g1q29,g3q29,g5q29,g8q29,htq29,hcq29,k33,c34,k36,c37,k39,c40,k42,CL,LTN]
                         first | exact hK | (simp only [hl,k2,c3,k5,c6,k8,c9,k11,c12,k14,c15,k17,c18,k20,c21,uh0q24,g1q24,g3q24,g5q24,htq24,hcq24,uh0q29,uh1q29,g1q29,g3q29,g5q29,g8q29,htq29,hcq29,k33,c34,k36,c37,k39,c40,k42,CL] at hK; exact hK)
                       rw [if_neg c40] at h
                       have c40 := Bool.eq_false_iff.2 c40
                       injection h with h; subst h
                       simp -implicitDefEqProofs only [lkp.eq_1,oh,og,od,oa,List.isEmpty_cons,iw,fy,tSg,tT,tS,tD,pnT,j6,kh,pnK,n9,kj,List.filter_cons,List.filter_nil,List.filterMap_cons,List.filterMap_nil,cy,gb,qc,fh,Ins.dsts,Ins.looks,I.ops,we,u5,List.all_cons,List.all_nil,List.any_cons,List.any_nil,List.contains_cons,List.contains_nil,List.append_nil,List.nil_append,List.cons_append,Option.toList_some,Option.toList_none,Option.isSome_some,Option.isSome_none,Bool.and_true,Bool.true_and,Bool.and_false,Bool.false_and,Bool.or_false,Bool.false_or,Bool.or_true,Bool.true_or,Bool.not_false,Bool.not_true,and_true,true_and,and_false,false_and,Nat.reduceBEq,bne_iff_ne,di,TT,Ic.t,ci,reduceEqDiff,reduceIte,reduceAdd,reduceLT,reduceCtorEq,reduceToNat,hl,k2,c3,k5,c6,k8,c9,k11,c12,k14,c15,k17,c18,k20,c21,uh0q24,g1q24,g3q24,g5q24,htq24,hcq24,uh0q29,uh1q29,g1q29,g3q29,g5q29,g8q29,htq29,hcq29,k33,c34,k36,c37,k39,c40,CL,LTN]
                       first | exact hK | (simp only [hl,k2,c3,k5,c6,k8,c9,k11,c12,k14,c15,k17,c18,k20,c21,uh0q24,g1q24,g3q24,g5q24,htq24,hcq24,uh0q29,uh1q29,g1q29,g3q29,g5q29,g8q29,htq29,hcq29,k33,c34,k36,c37,k39,c40,CL] at hK; exact hK)
                     rw [if_neg c37] at h
                     have c37 := Bool.eq_false_iff.2 c37
                     injection h with h; subst h
                     simp -implicitDefEqProofs only [lkp.eq_1,oh,og,od,oa,List.isEmpty_cons,iw,fy,tSg,tT,tS,tD,pnT,j6,kh,pnK,n9,kj,List.filter_cons,List.filter_nil,List.filterMap_cons,List.filterMap_nil,cy,gb,qc,fh,Ins.dsts,Ins.looks,I.ops,we,u5,List.all_cons,List.all_nil,List.any_cons,List.any_nil,List.contains_cons,List.contains_nil,List.append_nil,List.nil_append,List.cons_append,Option.toList_some,Option.toList_none,Option.isSome_some,Option.isSome_none,Bool.and_true,Bool.true_and,Bool.and_false,Bool.false_and,Bool.or_false,Bool.false_or,Bool.or_true,Bool.true_or,Bool.not_false,Bool.not_true,and_true,true_and,and_false,false_and,Nat.reduceBEq,bne_iff_ne,di,TT,Ic.t,ci,reduceEqDiff,reduceIte,reduceAdd,reduceLT,reduceCtorEq,reduceToNat,hl,k2,c3,k5,c6,k8,c9,k11,c12,k14,c15,k17,c18,k20,c21,uh0q24,g1q24,g3q24,g5q24,htq24,hcq24,uh0q29,uh1q29,g1q29,g3q29,g5q29,g8q29,htq29,hcq29,k33,c34,k36,c37,CL,LTN]
                     first | exact hK | (simp only [hl,k2,c3,k5,c6,k8,c9,k11,c12,k14,c15,k17,c18,k20,c21,uh0q24,g1q24,g3q24,g5q24,htq24,hcq24,uh0q29,uh1q29,g1q29,g3q29,g5q29,g8q29,htq29,hcq29,k33,c34,k36,c37,CL] at hK; exact hK)
                   rw [if_neg c34] at h
                   have c34 := Bool.eq_false_iff.2 c34
                   injection h with h; subst h
                   simp -implicitDefEqProofs only [lkp.eq_1,oh,og,od,oa,List.isEmpty_cons,iw,fy,tSg,tT,tS,tD,pnT,j6,kh,pnK,n9,kj,List.filter_cons,List.filter_nil,List.filterMap_cons,List.filterMap_nil,cy,gb,qc,fh,Ins.dsts,Ins.looks,I.ops,we,u5,List.all_cons,List.all_nil,List.any_cons,List.any_nil,List.contains_cons,List.contains_nil,List.append_nil,List.nil_append,List.cons_append,Option.toList_some,Option.toList_none,Option.isSome_some,Option.isSome_none,Bool.and_true,Bool.true_and,Bool.and_false,Bool.false_and,Bool.or_false,Bool.false_or,Bool.or_true,Bool.true_or,Bool.not_false,Bool.not_true,and_true,true_and,and_false,false_and,Nat.reduceBEq,bne_iff_ne,di,TT,Ic.t,ci,reduceEqDiff,reduceIte,reduceAdd,reduceLT,reduceCtorEq,reduceToNat,hl,k2,c3,k5,c6,k8,c9,k11,c12,k14,c15,k17,c18,k20,c21,uh0q24,g1q24,g3q24,g5q24,htq24,hcq24,uh0q29,uh1q29,g1q29,g3q29,g5q29,g8q29,htq29,hcq29,k33,c34,CL,LTN]
                   first | exact hK | (simp only [hl,k2,c3,k5,c6,k8,c9,k11,c12,k14,c15,k17,c18,k20,c21,uh0q24,g1q24,g3q24,g5q24,htq24,hcq24,uh0q29,uh1q29,g1q29,g3q29,g5q29,g8q29,htq29,hcq29,k33,c34,CL] at hK; exact hK)
                 intro w30 e tkq31 τq31 hcq31
                 subst e
                 simp only at h
                 have hcq31 := gc (n := τ.next) hcq31 (by first | omega | (simp only [ag,ap]; omega))
                 try simp -implicitDefEqProofs only [TT,Ic.t,ci,reduceEqDiff,reduceIte,reduceAdd,reduceLT,reduceCtorEq,reduceToNat,hl,k2,c3,k5,c6,k8,c9,k11,c12,k14,c15,k17,c18,k20,c21,uh0q24,g1q24,g3q24,g5q24,htq24,hcq24,CL,LTN] at hcq31
                 injection h with h; subst h
                 simp -implicitDefEqProofs only [lkp.eq_1,oh,og,od,oa,List.isEmpty_cons,iw,fy,tSg,tT,tS,tD,pnT,j6,kh,pnK,n9,kj,List.filter_cons,List.filter_nil,List.filterMap_cons,List.filterMap_nil,cy,gb,qc,fh,Ins.dsts,Ins.looks,I.ops,we,u5,List.all_cons,List.all_nil,List.any_cons,List.any_nil,List.contains_cons,List.contains_nil,List.append_nil,List.nil_append,List.cons_append,Option.toList_some,Option.toList_none,Option.isSome_some,Option.isSome_none,Bool.and_true,Bool.true_and,Bool.and_false,Bool.false_and,Bool.or_false,Bool.false_or,Bool.or_true,Bool.true_or,Bool.not_false,Bool.not_true,and_true,true_and,and_false,false_and,Nat.reduceBEq,bne_iff_ne,di,TT,Ic.t,ci,reduceEqDiff,reduceIte,reduceAdd,reduceLT,reduceCtorEq,reduceToNat,hl,k2,c3,k5,c6,k8,c9,k11,c12,k14,c15,k17,c18,k20,c21,uh0q24,g1q24,g3q24,g5q24,htq24,hcq24,hcq31,CL,LTN]
                 first | exact hK | (simp only [hl,k2,c3,k5,c6,k8,c9,k11,c12,k14,c15,k17,c18,k20,c21,uh0q24,g1q24,g3q24,g5q24,htq24,hcq24,hcq31,CL] at hK; exact hK)
               intro w25 e tkq26 τq26 hcq26
               subst e
               simp only at h
               have hcq26 := gc (n := τ.next) hcq26 (by first | omega | (simp only [ag,ap]; omega))
               try simp -implicitDefEqProofs only [TT,Ic.t,ci,reduceEqDiff,reduceIte,reduceAdd,reduceLT,reduceCtorEq,reduceToNat,hl,k2,c3,k5,c6,k8,c9,k11,c12,k14,c15,k17,c18,k20,c21,CL,LTN] at hcq26
               injection h with h; subst h
               simp -implicitDefEqProofs only [lkp.eq_1,oh,og,od,oa,List.isEmpty_cons,iw,fy,tSg,tT,tS,tD,pnT,j6,kh,pnK,n9,kj,List.filter_cons,List.filter_nil,List.filterMap_cons,List.filterMap_nil,cy,gb,qc,fh,Ins.dsts,Ins.looks,I.ops,we,u5,List.all_cons,List.all_nil,List.any_cons,List.any_nil,List.contains_cons,List.contains_nil,List.append_nil,List.nil_append,List.cons_append,Option.toList_some,Option.toList_none,Option.isSome_some,Option.isSome_none,Bool.and_true,Bool.true_and,Bool.and_false,Bool.false_and,Bool.or_false,Bool.false_or,Bool.or_true,Bool.true_or,Bool.not_false,Bool.not_true,and_true,true_and,and_false,false_and,Nat.reduceBEq,bne_iff_ne,di,TT,Ic.t,ci,reduceEqDiff,reduceIte,reduceAdd,reduceLT,reduceCtorEq,reduceToNat,hl,k2,c3,k5,c6,k8,c9,k11,c12,k14,c15,k17,c18,k20,c21,hcq26,CL,LTN]
               first | exact hK | (simp only [hl,k2,c3,k5,c6,k8,c9,k11,c12,k14,c15,k17,c18,k20,c21,hcq26,CL] at hK; exact hK)
             rw [if_neg c21] at h
             have c21 := Bool.eq_false_iff.2 c21
             injection h with h; subst h
             simp -implicitDefEqProofs only [lkp.eq_1,oh,og,od,oa,List.isEmpty_cons,iw,fy,tSg,tT,tS,tD,pnT,j6,kh,pnK,n9,kj,List.filter_cons,List.filter_nil,List.filterMap_cons,List.filterMap_nil,cy,gb,qc,fh,Ins.dsts,Ins.looks,I.ops,we,u5,List.all_cons,List.all_nil,List.any_cons,List.any_nil,List.contains_cons,List.contains_nil,List.append_nil,List.nil_append,List.cons_append,Option.toList_some,Option.toList_none,Option.isSome_some,Option.isSome_none,Bool.and_true,Bool.true_and,Bool.and_false,Bool.false_and,Bool.or_false,Bool.false_or,Bool.or_true,Bool.true_or,Bool.not_false,Bool.not_true,and_true,true_and,and_false,false_and,Nat.reduceBEq,bne_iff_ne,di,TT,Ic.t,ci,reduceEqDiff,reduceIte,reduceAdd,reduceLT,reduceCtorEq,reduceToNat,hl,k2,c3,k5,c6,k8,c9,k11,c12,k14,c15,k17,c18,k20,c21,CL,LTN]
             first | exact hK | (simp only [hl,k2,c3,k5,c6,k8,c9,k11,c12,k14,c15,k17,c18,k20,c21,CL] at hK; exact hK)
           rw [if_neg c18] at h
           have c18 := Bool.eq_false_iff.2 c18
           injection h with h; subst h
           simp -implicitDefEqProofs only [lkp.eq_1,oh,og,od,oa,List.isEmpty_cons,iw,fy,tSg,tT,tS,tD,pnT,j6,kh,pnK,n9,kj,List.filter_cons,List.filter_nil,List.filterMap_cons,List.filterMap_nil,cy,gb,qc,fh,Ins.dsts,Ins.looks,I.ops,we,u5,List.all_cons,List.all_nil,List.any_cons,List.any_nil,List.contains_cons,List.contains_nil,List.append_nil,List.nil_append,List.cons_append,Option.toList_some,Option.toList_none,Option.isSome_some,Option.isSome_none,Bool.and_true,Bool.true_and,Bool.and_false,Bool.false_and,Bool.or_false,Bool.false_or,Bool.or_true,Bool.true_or,Bool.not_false,Bool.not_true,and_true,true_and,and_false,false_and,Nat.reduceBEq,bne_iff_ne,di,TT,Ic.t,ci,reduceEqDiff,reduceIte,reduceAdd,reduceLT,reduceCtorEq,reduceToNat,hl,k2,c3,k5,c6,k8,c9,k11,c12,k14,c15,k17,c18,CL,LTN]
           first | exact hK | (simp only [hl,k2,c3,k5,c6,k8,c9,k11,c12,k14,c15,k17,c18,CL] at hK; exact hK)
         rw [if_neg c15] at h
         have c15 := Bool.eq_false_iff.2 c15
         injection h with h; subst h
         simp -implicitDefEqProofs only [lkp.eq_1,oh,og,od,oa,List.isEmpty_cons,iw,fy,tSg,tT,tS,tD,pnT,j6,kh,pnK,n9,kj,List.filter_cons,List.filter_nil,List.filterMap_cons,List.filterMap_nil,cy,gb,qc,fh,Ins.dsts,Ins.looks,I.ops,we,u5,List.all_cons,List.all_nil,List.any_cons,List.any_nil,List.contains_cons,List.contains_nil,List.append_nil,List.nil_append,List.cons_append,Option.toList_some,Option.toList_none,Option.isSome_some,Option.isSome_none,Bool.and_true,Bool.true_and,Bool.and_false,Bool.false_and,Bool.or_false,Bool.false_or,Bool.or_true,Bool.true_or,Bool.not_false,Bool.not_true,and_true,true_and,and_false,false_and,Nat.reduceBEq,bne_iff_ne,di,TT,Ic.t,ci,reduceEqDiff,reduceIte,reduceAdd,reduceLT,reduceCtorEq,reduceToNat,hl,k2,c3,k5,c6,k8,c9,k11,c12,k14,c15,CL,LTN]
         first | exact hK | (simp only [hl,k2,c3,k5,c6,k8,c9,k11,c12,k14,c15,CL] at hK; exact hK)
       rw [if_neg c12] at h
       have c12 := Bool.eq_false_iff.2 c12
       injection h with h; subst h
       simp -implicitDefEqProofs only [lkp.eq_1,oh,og,od,oa,List.isEmpty_cons,iw,fy,tSg,tT,tS,tD,pnT,j6,kh,pnK,n9,kj,List.filter_cons,List.filter_nil,List.filterMap_cons,List.filterMap_nil,cy,gb,qc,fh,Ins.dsts,Ins.looks,I.ops,we,u5,List.all_cons,List.all_nil,List.any_cons,List.any_nil,List.contains_cons,List.contains_nil,List.append_nil,List.nil_append,List.cons_append,Option.toList_some,Option.toList_none,Option.isSome_some,Option.isSome_none,Bool.and_true,Bool.true_and,Bool.and_false,Bool.false_and,Bool.or_false,Bool.false_or,Bool.or_true,Bool.true_or,Bool.not_false,Bool.not_true,and_true,true_and,and_false,false_and,Nat.reduceBEq,bne_iff_ne,di,TT,Ic.t,ci,reduceEqDiff,reduceIte,reduceAdd,reduceLT,reduceCtorEq,reduceToNat,hl,k2,c3,k5,c6,k8,c9,k11,c12,CL,LTN]
       first | exact hK | (simp only [hl,k2,c3,k5,c6,k8,c9,k11,c12,CL] at hK; exact hK)
     rw [if_neg c9] at h
     have c9 := Bool.eq_false_iff.2 c9
     injection h with h; subst h
     simp -implicitDefEqProofs only [lkp.eq_1,oh,og,od,oa,List.isEmpty_cons,iw,fy,tSg,tT,tS,tD,pnT,j6,kh,pnK,n9,kj,List.filter_cons,List.filter_nil,List.filterMap_cons,List.filterMap_nil,cy,gb,qc,fh,Ins.dsts,Ins.looks,I.ops,we,u5,List.all_cons,List.all_nil,List.any_cons,List.any_nil,List.contains_cons,List.contains_nil,List.append_nil,List.nil_append,List.cons_append,Option.toList_some,Option.toList_none,Option.isSome_some,Option.isSome_none,Bool.and_true,Bool.true_and,Bool.and_false,Bool.false_and,Bool.or_false,Bool.false_or,Bool.or_true,Bool.true_or,Bool.not_false,Bool.not_true,and_true,true_and,and_false,false_and,Nat.reduceBEq,bne_iff_ne,di,TT,Ic.t,ci,reduceEqDiff,reduceIte,reduceAdd,reduceLT,reduceCtorEq,reduceToNat,hl,k2,c3,k5,c6,k8,c9,CL,LTN]
     first | exact hK | (simp only [hl,k2,c3,k5,c6,k8,c9,CL] at hK; exact hK)
   rw [if_neg c6] at h
   have c6 := Bool.eq_false_iff.2 c6
   injection h with h; subst h
   simp -implicitDefEqProofs only [lkp.eq_1,oh,og,od,oa,List.isEmpty_cons,iw,fy,tSg,tT,tS,tD,pnT,j6,kh,pnK,n9,kj,List.filter_cons,List.filter_nil,List.filterMap_cons,List.filterMap_nil,cy,gb,qc,fh,Ins.dsts,Ins.looks,I.ops,we,u5,List.all_cons,List.all_nil,List.any_cons,List.any_nil,List.contains_cons,List.contains_nil,List.append_nil,List.nil_append,List.cons_append,Option.toList_some,Option.toList_none,Option.isSome_some,Option.isSome_none,Bool.and_true,Bool.true_and,Bool.and_false,Bool.false_and,Bool.or_false,Bool.false_or,Bool.or_true,Bool.true_or,Bool.not_false,Bool.not_true,and_true,true_and,and_false,false_and,Nat.reduceBEq,bne_iff_ne,di,TT,Ic.t,ci,reduceEqDiff,reduceIte,reduceAdd,reduceLT,reduceCtorEq,reduceToNat,hl,k2,c3,k5,c6,CL,LTN]
   first | exact hK | (simp only [hl,k2,c3,k5,c6,CL] at hK; exact hK)
 rw [if_neg c3] at h
 have c3 := Bool.eq_false_iff.2 c3
 injection h with h; subst h
 simp -implicitDefEqProofs only [lkp.eq_1,oh,og,od,oa,List.isEmpty_cons,iw,fy,tSg,tT,tS,tD,pnT,j6,kh,pnK,n9,kj,List.filter_cons,List.filter_nil,List.filterMap_cons,List.filterMap_nil,cy,gb,qc,fh,Ins.dsts,Ins.looks,I.ops,we,u5,List.all_cons,List.all_nil,List.any_cons,List.any_nil,List.contains_cons,List.contains_nil,List.append_nil,List.nil_append,List.cons_append,Option.toList_some,Option.toList_none,Option.isSome_some,Option.isSome_none,Bool.and_true,Bool.true_and,Bool.and_false,Bool.false_and,Bool.or_false,Bool.false_or,Bool.or_true,Bool.true_or,Bool.not_false,Bool.not_true,and_true,true_and,and_false,false_and,Nat.reduceBEq,bne_iff_ne,di,TT,Ic.t,ci,reduceEqDiff,reduceIte,reduceAdd,reduceLT,reduceCtorEq,reduceToNat,hl,k2,c3,CL,LTN]
 first | exact hK | (simp only [hl,k2,c3,CL] at hK; exact hK)
theorem zb9p (p1 : aq) (r : Bool) (h : l5 p1 = some r) (lk : Bool) (d : Option Nat) (K : av) (fr : TF) (tk : TK) (τ : TH) (hl : τ.lock ≤ τ.next) : fp G lk pi [.agg [.str p1.ID,.sl (List.map ac.tv p1.Parties),.sl (List.map af.tv p1.Arcs),.sl (List.map (TV.int .i64) p1.Leaders),.sl (List.map TV.str p1.Locks),.int .i64 p1.Start,.int .i64 p1.Delta]] d K fr tk τ = K (gg fr d (.bool r)) tk τ :=
 bn (zcsk p1 r h τ  hl) (zcsk p1 r h (τ.locked τ.next)  (Nat.le_refl _) ) (by simp -implicitDefEqProofs only [TT,Ic.t,ci,reduceEqDiff,reduceIte,reduceAdd,reduceLT,reduceCtorEq,reduceToNat,hl,CL,LTN])
def gv (v0 : Int) (v2 : Nat) (v3 : Int) (v1 : (List Int)) (v4 : Int) : Option (LS ((List Int) × Int) ((List Int))) :=
 if v4 < v3 then
  if ¬ (IntKind.i64.wrap ((8 : Int) * (IntKind.i64.wrap ((7 : Int) - v4)))) < 0 then
   if 0 ≤ v4 ∧ v4 < (v2 : Int) then
    if v4.toNat + 1 ≤ v1.length then
     some (.nx ((v1.set v4.toNat (IntKind.u8.wrap (Int.fdiv v0 (2 ^ (Nat.min (IntKind.i64.wrap ((8 : Int) * (IntKind.i64.wrap ((7 : Int) - v4)))).toNat IntKind.i64.bits))))),(IntKind.i64.wrap (v4 + (1 : Int)))))
    else
     none
   else
    none
  else
   none
 else
 some (.dn v1)
def pm (v0 : Int) (v2 : Nat) (v3 : Int) (v1 : (List Int)) (v4 : Int) : Option ((List Int)) := sq (fun st => gv v0 v2 v3 st.1 st.2) (v1,v4)
theorem zct5 (v0 : Int) (v2 : Nat) (v3 : Int) (v1 : (List Int)) (v4 : Int) : pm v0 v2 v3 v1 v4 = gv v0 v2 v3 v1 v4 >>= LS.go (fun st => pm v0 v2 v3 st.1 st.2) := gy (fun st => gv v0 v2 v3 st.1 st.2) (v1,v4)
def xj (v0 : Int) (v2 : Nat) (v3 : Int) (v1 : (List Int)) (v4 : Int) (r : (List Int)) : Prop := ∀ (τ : TH) (o0 : Nat) (hl : τ.lock ≤ τ.next) (ha0 : τ.at o0 = some ⟨fj,List.map (TV.int .u8) v1⟩) (hi0 : o0 < τ.next) (hw0 : τ.lock ≤ o0) (Q : TEx → av) (hQ0 : ∀ (fr : TF) (tk2 : TK) (τ2 : TH),lkp fr 3 = .slm o0 0 v2 1 → tk2.take 0 = [] → τ2.cut τ.next = (τ.put o0 ⟨fj,List.map (TV.int .u8) r⟩) → Q (.exit 0) fr tk2 τ2) ,tW G (.loop [0,3,7,8] zb9k) Q [(0,.int .i64 v0),(3,.slm o0 0 v2 1),(7,.int .i64 v3),(8,.int .i64 v4)] [] τ
theorem zc58 (v0 : Int) (v2 : Nat) (v3 : Int) (v1 : (List Int)) (v4 : Int) (r : (List Int)) (h : pm v0 v2 v3 v1 v4 = some r) : xj v0 v2 v3 v1 v4 r := by
 refine fg (f := fun st => gv v0 v2 v3 st.1 st.2) (P := fun st r => ∀ (v1 : (List Int)) (v4 : Int),(v1,v4) = st → xj v0 v2 v3 v1 v4 r) ?_ h v1 v4 rfl
 clear h r v4 v1
 intro st o h r ih v1 v4 hst τ o0  hl ha0 hi0 hw0 Q hQ0
 subst hst
 have h : gv v0 v2 v3 v1 v4 = some o := h
 unfold gv at h
 refine pj fun LQ hn hr he => ?_
 by_cases c1 : v4 < v3
 · rw [if_pos c1] at h
   obtain ⟨c2,h⟩ := ifS h
   obtain ⟨c3,h⟩ := ifS h
   obtain ⟨c4,h⟩ := ifS h
   have f5 : (List.map (TV.int .u8) v1).set v4.toNat (.int .u8 (IntKind.u8.wrap (Int.fdiv v0 (2 ^ (Nat.min (IntKind.i64.wrap ((8 : Int) * (IntKind.i64.wrap ((7 : Int) - v4)))).toNat IntKind.i64.bits))))) = List.map (TV.int .u8) (v1.set v4.toNat (IntKind.u8.wrap (Int.fdiv v0 (2 ^ (Nat.min (IntKind.i64.wrap ((8 : Int) * (IntKind.i64.wrap ((7 : Int) - v4)))).toNat IntKind.i64.bits))))) := zb95 (enc := (TV.int .u8)) _ _ _
   injection h with h; subst h
   have ih := ih (v1.set v4.toNat (IntKind.u8.wrap (Int.fdiv v0 (2 ^ (Nat.min (IntKind.i64.wrap ((8 : Int) * (IntKind.i64.wrap ((7 : Int) - v4)))).toNat IntKind.i64.bits))))) (IntKind.i64.wrap (v4 + (1 : Int))) rfl
   unfold xj at ih
   simp -implicitDefEqProofs only [zb9k,zb81,TT,Ic.t,ci,reduceEqDiff,reduceIte,reduceAdd,reduceLT,reduceCtorEq,reduceToNat,hl,ha0,hi0,hw0,c1,c2,c3,c4,f5,CL,LTN]
   rw [hn]
   simp -implicitDefEqProofs only [TT,Ic.t,ci,reduceEqDiff,reduceIte,reduceAdd,reduceLT,reduceCtorEq,reduceToNat,hl,ha0,hi0,hw0,c1,c2,c3,c4,f5,CL,LTN]
   exact ih  (τ.put o0 ⟨fj,List.map (TV.int .u8) (v1.set v4.toNat (IntKind.u8.wrap (Int.fdiv v0 (2 ^ (Nat.min (IntKind.i64.wrap ((8 : Int) * (IntKind.i64.wrap ((7 : Int) - v4)))).toNat IntKind.i64.bits)))))⟩) o0   (by first | assumption | (simp only [ag,ak]; assumption)) (by simp -implicitDefEqProofs only [TT,Ic.t,ci,reduceEqDiff,reduceIte,reduceAdd,reduceLT,reduceCtorEq,reduceToNat,hl,ha0,hi0,hw0,c1,c2,c3,c4,f5,CL,LTN]) (by first | assumption | (simp only [ag,ak]; assumption)) (by first | assumption | (simp only [ag,ak]; assumption)) Q (fun fr tk2 τ2 g0 ht hτ => hQ0 fr tk2 τ2 g0 ht (by first | exact hτ | simpa only [ag,zbjv,hl,ha0,hi0,hw0] using hτ))
 rw [if_neg c1] at h
 injection h with h; subst h
 obtain rfl : _ = r := ih
 simp -implicitDefEqProofs only [zb9k,zb81,TT,Ic.t,ci,reduceEqDiff,reduceIte,reduceAdd,reduceLT,reduceCtorEq,reduceToNat,hl,ha0,hi0,hw0,he,hr,c1,CL,LTN]
 exact hQ0  _ _ _  (by first | rfl | (simp -implicitDefEqProofs only [TT,Ic.t,ci,reduceEqDiff,reduceIte,reduceAdd,reduceLT,reduceCtorEq,reduceToNat,hl,ha0,hi0,hw0,c1,CL,LTN])) (by first | rfl | (simp -implicitDefEqProofs only [TT,Ic.t,ci,reduceEqDiff,reduceIte,reduceAdd,reduceLT,reduceCtorEq,reduceToNat,hl,ha0,hi0,hw0,c1,CL,LTN])) (by first | exact kf (Nat.le_refl _) | (simp -implicitDefEqProofs only [TT,Ic.t,ci,reduceEqDiff,reduceIte,reduceAdd,reduceLT,reduceCtorEq,reduceToNat,hl,ha0,hi0,hw0,mi ha0,c1,CL,LTN]))
def gw (p1 : Int) : Option ByteArray :=
 pm p1 8 ((8 : Nat) : Int) (List.replicate 8 (0 : Int)) (0 : Int) >>= fun y3 =>
 if y3.length = 8 then
  some (zaqe y3)
 else
  none
theorem zcor (p1 : Int) (r : ByteArray) (h : gw p1 = some r) (τ : TH) (hl : τ.lock ≤ τ.next) : Ru G fk [.int .i64 p1] τ (.str r) τ := by
 refine jv fun K hK => ?_
 rw [bx zc4r (Nat.le_of_ble_eq_true rfl)]
 unfold gw at h
 have f1 : (8 : Int) * ((1 : Nat) : Int) ≤ 140737488355328 := by decide
 have f2 : (List.replicate 8 [.int .u8 (0 : Int)]).flatten = List.map (TV.int .u8) (List.replicate 8 (0 : Int)) := zbvt (enc := (TV.int .u8)) _ _
 obtain ⟨y3,hy3,h⟩ := ob h
 simp -implicitDefEqProofs only [zb81,TT,Ic.t,ci,reduceEqDiff,reduceIte,reduceAdd,reduceMul,reduceLT,reduceLeDiff,reduceSub,reduceCtorEq,reduceEq,reduceNe,reduceToNat,Int.reduceLT,reduceLE,reduceNeg,hl,f1,f2,CL,LTN]
 have Sy3 := zc58 p1 8 ((8 : Nat) : Int) (List.replicate 8 (0 : Int)) (0 : Int) y3 hy3
 unfold xj at Sy3
 refine Sy3 _ τ.next (by first | assumption | omega | (simp only [ag,ap,ak,bb]; omega)) (by first | (simp -implicitDefEqProofs only [TT,Ic.t,ci,reduceEqDiff,reduceIte,reduceAdd,reduceMul,reduceLT,reduceLeDiff,reduceSub,reduceCtorEq,reduceEq,reduceNe,reduceToNat,Int.reduceLT,reduceLE,reduceNeg,hl,f1,f2,CL,LTN]; done) | (simp -implicitDefEqProofs only [TT,Ic.t,ci,reduceEqDiff,reduceIte,reduceAdd,reduceMul,reduceLT,reduceLeDiff,reduceSub,reduceCtorEq,reduceEq,reduceNe,reduceToNat,Int.reduceLT,reduceLE,reduceNeg,hl,f1,f2,CL,LTN]; rfl)) (by first | assumption | omega | (simp only [ag,ap,ak,bb]; omega)) (by first | assumption | omega | (simp only [ag,ap,ak,bb]; omega)) _ ?_
 intro frq4 tkq4 τq4 g3q4 htq4 hcq4
 have hcq4 := gc (n := τ.next + 1) hcq4 (by first | omega | (simp only [ag,ap]; omega))
 try simp only [List.take_succ_cons,List.take_zero,List.take_nil,CL] at htq4
 try simp -implicitDefEqProofs only [TT,Ic.t,ci,reduceEqDiff,reduceIte,reduceAdd,reduceMul,reduceLT,reduceLeDiff,reduceSub,reduceCtorEq,reduceEq,reduceNe,reduceToNat,Int.reduceLT,reduceLE,reduceNeg,hl,f1,f2,CL,LTN] at hcq4
 obtain ⟨c5,h⟩ := ifS h
 have f6 : 8 ≤ y3.length := Nat.le_of_eq (Eq.symm c5)
 have f7 : List.take 8 (List.map (TV.int .u8) y3) = List.map (TV.int .u8) y3 := zb8b c5
 injection h with h; subst h
 simp -implicitDefEqProofs only [zb81,TT,Ic.t,ci,reduceEqDiff,reduceIte,reduceAdd,reduceMul,reduceLT,reduceLeDiff,reduceSub,reduceCtorEq,reduceEq,reduceNe,reduceToNat,Int.reduceLT,reduceLE,reduceNeg,hl,f1,f2,g3q4,htq4,hcq4,eq_true c5,f6,f7,CL,LTN]
 exact hK
theorem iv (p1 : Int) (r : ByteArray) (h : gw p1 = some r) (lk : Bool) (d : Option Nat) (K : av) (fr : TF) (tk : TK) (τ : TH) (hl : τ.lock ≤ τ.next) : fp G lk fk [.int .i64 p1] d K fr tk τ = K (gg fr d (.str r)) tk τ :=
 bn (zcor p1 r h τ  hl) (zcor p1 r h (τ.locked τ.next)  (Nat.le_refl _) ) (by simp -implicitDefEqProofs only [TT,Ic.t,ci,reduceEqDiff,reduceIte,reduceAdd,reduceLT,reduceCtorEq,reduceToNat,hl,CL,LTN])
def pe (p1 : ByteArray) : Option ByteArray :=
 gw ((p1.size : Nat) : Int) >>= fun y1 =>
 if ¬ (9223372036854775807 < ((y1.size + p1.size : Nat) : Int)) then
  some (y1 ++ p1)
 else
  none
theorem zcqx (p1 : ByteArray) (r : ByteArray) (h : pe p1 = some r) (τ : TH) (hl : τ.lock ≤ τ.next) : Ru G jt [.str p1] τ (.str r) τ := by
 refine jv fun K hK => ?_
 rw [bx zc9z (Nat.le_of_ble_eq_true rfl)]
 unfold pe at h
 obtain ⟨y1,hy1,h⟩ := ob h
 have k2 := iv ((p1.size : Nat) : Int) _ hy1
 try simp only [CL,MC,reduceToNat] at k2
 obtain ⟨c3,h⟩ := ifS h
 injection h with h; subst h
 simp -implicitDefEqProofs only [zc5m,TT,Ic.t,ci,reduceEqDiff,reduceIte,reduceAdd,reduceLT,reduceCtorEq,reduceToNat,hl,k2,c3,CL,LTN]
 exact hK
theorem zb9n (p1 : ByteArray) (r : ByteArray) (h : pe p1 = some r) (lk : Bool) (d : Option Nat) (K : av) (fr : TF) (tk : TK) (τ : TH) (hl : τ.lock ≤ τ.next) : fp G lk jt [.str p1] d K fr tk τ = K (gg fr d (.str r)) tk τ :=
 bn (zcqx p1 r h τ  hl) (zcqx p1 r h (τ.locked τ.next)  (Nat.le_refl _) ) (by simp -implicitDefEqProofs only [TT,Ic.t,ci,reduceEqDiff,reduceIte,reduceAdd,reduceLT,reduceCtorEq,reduceToNat,hl,CL,LTN])
end
end Go.Proofs.Ytdcfoaafkppojaa
