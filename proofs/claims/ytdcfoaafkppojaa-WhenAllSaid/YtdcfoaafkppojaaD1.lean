/- Functions of numbers and lists, printed by a program of ours out of the code for the tree level, with their proofs. -/
import Derived.Test.YtdcfoaafkppojaaHOnce
set_option linter.unusedVariables false
set_option linter.unusedSimpArgs false
set_option linter.unusedSectionVars false
namespace Go.Proofs.Ytdcfoaafkppojaa
open Go Go.RowKit Sh Ic
noncomputable def oo (p1 : Int) (p2 : Int) : Option Bool :=
 ir p1 (0 : Int) (IntKind.i64.wrap (p2 - (1 : Int))) >>= fun y1 =>
 some (!y1)
theorem zaak (p1 : Int) (p2 : Int) (r : Bool) (h : oo p1 p2 = some r) (τ : TH) (o0 : Nat) (hl : τ.lock ≤ τ.next) (ha0 : τ.at o0 = some ⟨ka,[.int .i64 p2]⟩) (hi0 : o0 < τ.next) : Ru G fb [.int .i64 p1,.ptr o0 0] τ (.bool r) τ := by
  refine jk fun K hK => ?_
  rw [b7 zar8 (Nat.le_of_ble_eq_true rfl)]
  unfold oo at h
  obtain ⟨y1,hy1,h⟩ := ob h
  have k2 := jn p1 (0 : Int) (IntKind.i64.wrap (p2 - (1 : Int))) _ hy1
  try simp only [CL,MC,Int.reduceToNat] at k2
  injection h with h; subst h
  simp -implicitDefEqProofs only [zash,TT,Ic.t,Ic.ci,Nat.reduceEqDiff,reduceIte,Nat.reduceAdd,Nat.reduceLT,reduceCtorEq,Int.reduceToNat,hl,ha0,hi0,k2,CL,LTN]
  exact hK
theorem zan9 (p1 : Int) (p2 : Int) (r : Bool) (h : oo p1 p2 = some r) (lk : Bool) (d : Option Nat) (K : au) (fr : TF) (tk : TK) (τ : TH) (o0 : Nat) (hl : τ.lock ≤ τ.next) (ha0 : τ.at o0 = some ⟨ka,[.int .i64 p2]⟩) (hi0 : o0 < τ.next) : fv G lk fb [.int .i64 p1,.ptr o0 0] d K fr tk τ = K (fu fr d (.bool r)) tk τ :=
  aw (zaak p1 p2 r h τ o0 hl ha0 hi0) (zaak p1 p2 r h (τ.locked τ.next) o0 (Nat.le_refl _) (by rw [za0i]; exact ha0) hi0) (by simp -implicitDefEqProofs only [TT,Ic.t,Ic.ci,Nat.reduceEqDiff,reduceIte,Nat.reduceAdd,Nat.reduceLT,reduceCtorEq,Int.reduceToNat,hl,ha0,hi0,CL,LTN])
noncomputable def ay (v0 : (List Int)) (v1 : Int) (v2 : Int) (v3 : Int) : Option (LS (Int) (LX (Unit) (Int))) :=
 if v3 < v2 then
  ixL v0 v3 >>= fun y2 =>
  oo y2 v1 >>= fun y4 =>
  if y4 = true then
   some (.dn (.rt v3))
  else
  some (.nx (IntKind.i64.wrap (v3 + (1 : Int))))
 else
 some (.dn (.ex ()))
noncomputable def bv (v0 : (List Int)) (v1 : Int) (v2 : Int) (v3 : Int) : Option (LX (Unit) (Int)) := ko (fun st => ay v0 v1 v2 st) v3
theorem jt (v0 : (List Int)) (v1 : Int) (v2 : Int) (v3 : Int) : bv v0 v1 v2 v3 = ay v0 v1 v2 v3 >>= LS.go (fun st => bv v0 v1 v2 st) := ei (fun st => ay v0 v1 v2 st) v3
def eh (v0 : (List Int)) (v1 : Int) (v2 : Int) (v3 : Int) (r : LX (Unit) (Int)) : Prop := ∀ (τ : TH) (o0 : Nat) (hl : τ.lock ≤ τ.next) (ha0 : τ.at o0 = some ⟨ka,[.int .i64 v1]⟩) (hi0 : o0 < τ.next) (Q : TEx → au) (hQ0 : ∀ v : Unit,r = (.ex v) → ∀ (fr : TF) (tk2 : TK) (τ2 : TH),tk2.take 0 = [] → τ2.cut τ.next = τ → Q (.exit 0) fr tk2 τ2) (hQ1 : ∀ v : Int,r = (.rt v) → ∀ (tk2 : TK) (τ2 : TH),τ2.cut τ.next = τ → Q .ret [(4,.int .i64 v)] tk2 τ2) ,tW G (.loop [0,1,7,8] d5) Q [(0,.sl (List.map (TV.int .i64) v0)),(1,.func fb [] [.ptr o0 0]),(7,.int .i64 v2),(8,.int .i64 v3)] [] τ
theorem r9 (v0 : (List Int)) (v1 : Int) (v2 : Int) (v3 : Int) (r : LX (Unit) (Int)) (h : bv v0 v1 v2 v3 = some r) : eh v0 v1 v2 v3 r := by
  refine cy (f := fun st => ay v0 v1 v2 st) (P := fun st r => ∀ (v3 : Int),v3 = st → eh v0 v1 v2 v3 r) ?_ h v3 rfl
  clear h r v3
  intro st o h r ih v3 hst τ o0  hl ha0 hi0 Q hQ0 hQ1
  subst hst
  have h : ay v0 v1 v2 v3 = some o := h
  unfold ay at h
  refine jm fun LQ hn hr he => ?_
  by_cases c1 : v3 < v2
  · rw [if_pos c1] at h
    obtain ⟨y2,hy2,h⟩ := ob h
    have f3 := a9 hy2
    have f3a := (f3.2.2 (TV.int .i64)).1
    have f3b := (f3.2.2 (TV.int .i64)).2
    try simp only [CL,MC,Int.reduceToNat] at f3 f3a f3b
    obtain ⟨y4,hy4,h⟩ := ob h
    have k5 := zan9 y2 v1 _ hy4
    try simp only [CL,MC,Int.reduceToNat] at k5
    by_cases c6 : y4 = true
    · rw [if_pos c6] at h
      injection h with h; subst h
      obtain rfl : _ = r := ih
      simp -implicitDefEqProofs only [d5,dg,TT,Ic.t,Ic.ci,Nat.reduceEqDiff,reduceIte,Nat.reduceAdd,Nat.reduceLT,reduceCtorEq,Int.reduceToNat,hl,ha0,hi0,he,hr,c1,f3.1,f3.2.1,f3a,f3b,k5,c6,CL,LTN]
      exact hQ1 v3 rfl  _ _  (by first | exact bp (Nat.le_refl _) | (simp -implicitDefEqProofs only [TT,Ic.t,Ic.ci,Nat.reduceEqDiff,reduceIte,Nat.reduceAdd,Nat.reduceLT,reduceCtorEq,Int.reduceToNat,hl,ha0,hi0,c1,f3.1,f3.2.1,f3a,f3b,k5,c6,CL,LTN]))
    rw [if_neg c6] at h
    have c6 := Bool.eq_false_iff.2 c6
    injection h with h; subst h
    have ih := ih (IntKind.i64.wrap (v3 + (1 : Int))) rfl
    unfold eh at ih
    simp -implicitDefEqProofs only [d5,dg,TT,Ic.t,Ic.ci,Nat.reduceEqDiff,reduceIte,Nat.reduceAdd,Nat.reduceLT,reduceCtorEq,Int.reduceToNat,hl,ha0,hi0,c1,f3.1,f3.2.1,f3a,f3b,k5,c6,CL,LTN]
    rw [hn]
    simp -implicitDefEqProofs only [TT,Ic.t,Ic.ci,Nat.reduceEqDiff,reduceIte,Nat.reduceAdd,Nat.reduceLT,reduceCtorEq,Int.reduceToNat,hl,ha0,hi0,c1,f3.1,f3.2.1,f3a,f3b,k5,c6,CL,LTN]
    exact ih  τ o0   (by first | assumption | (simp only [ag,ah]; assumption)) (by simp -implicitDefEqProofs only [TT,Ic.t,Ic.ci,Nat.reduceEqDiff,reduceIte,Nat.reduceAdd,Nat.reduceLT,reduceCtorEq,Int.reduceToNat,hl,ha0,hi0,c1,f3.1,f3.2.1,f3a,f3b,k5,c6,CL,LTN]) (by first | assumption | (simp only [ag,ah]; assumption)) Q hQ0 hQ1
  rw [if_neg c1] at h
  injection h with h; subst h
  obtain rfl : _ = r := ih
  simp -implicitDefEqProofs only [d5,dg,TT,Ic.t,Ic.ci,Nat.reduceEqDiff,reduceIte,Nat.reduceAdd,Nat.reduceLT,reduceCtorEq,Int.reduceToNat,hl,ha0,hi0,he,hr,c1,CL,LTN]
  exact hQ0 () rfl  _ _ _   (by first | rfl | (simp -implicitDefEqProofs only [TT,Ic.t,Ic.ci,Nat.reduceEqDiff,reduceIte,Nat.reduceAdd,Nat.reduceLT,reduceCtorEq,Int.reduceToNat,hl,ha0,hi0,c1,CL,LTN])) (by first | exact bp (Nat.le_refl _) | (simp -implicitDefEqProofs only [TT,Ic.t,Ic.ci,Nat.reduceEqDiff,reduceIte,Nat.reduceAdd,Nat.reduceLT,reduceCtorEq,Int.reduceToNat,hl,ha0,hi0,c1,CL,LTN]))
noncomputable def eo (p1 : (List Int)) (p2 : Int) : Option Int :=
 bv p1 p2 ((p1.length : Nat) : Int) (0 : Int) >>= fun y1 =>
 match y1 with
 | .ex w2 =>
  some (-1 : Int)
 | .rt w4 =>
  some w4
theorem ky (p1 : (List Int)) (p2 : Int) (r : Int) (h : eo p1 p2 = some r) (τ : TH) (o0 : Nat) (hl : τ.lock ≤ τ.next) (ha0 : τ.at o0 = some ⟨ka,[.int .i64 p2]⟩) (hi0 : o0 < τ.next) : Ru G dj [.sl (List.map (TV.int .i64) p1),.func fb [] [.ptr o0 0]] τ (.int .i64 r) τ := by
  refine jk fun K hK => ?_
  rw [b7 wg (Nat.le_of_ble_eq_true rfl)]
  unfold eo at h
  obtain ⟨y1,hy1,h⟩ := ob h
  simp -implicitDefEqProofs only [dg,TT,Ic.t,Ic.ci,Nat.reduceEqDiff,reduceIte,Nat.reduceAdd,Nat.reduceLT,reduceCtorEq,Int.reduceToNat,hl,ha0,hi0,CL,LTN]
  have Sy1 := r9 p1 p2 ((p1.length : Nat) : Int) (0 : Int) y1 hy1
  unfold eh at Sy1
  refine Sy1 _ o0 (by first | assumption | omega | (simp only [ag,aj,ah,av]; omega)) (by simp -implicitDefEqProofs only [TT,Ic.t,Ic.ci,Nat.reduceEqDiff,reduceIte,Nat.reduceAdd,Nat.reduceLT,reduceCtorEq,Int.reduceToNat,hl,ha0,hi0,CL,LTN]) (by first | assumption | omega | (simp only [ag,aj,ah,av]; omega)) _ ?_ ?_
  · intro w2 e frq3 tkq3 τq3 htq3 hcq3
    subst e
    simp only at h
    have hcq3 := bq (n := τ.next) hcq3 (by first | omega | (simp only [ag,aj]; omega))
    try simp only [List.take_succ_cons,List.take_zero,List.take_nil,CL] at htq3
    try simp -implicitDefEqProofs only [TT,Ic.t,Ic.ci,Nat.reduceEqDiff,reduceIte,Nat.reduceAdd,Nat.reduceLT,reduceCtorEq,Int.reduceToNat,hl,ha0,hi0,CL,LTN] at hcq3
    injection h with h; subst h
    simp -implicitDefEqProofs only [dg,TT,Ic.t,Ic.ci,Nat.reduceEqDiff,reduceIte,Nat.reduceAdd,Nat.reduceLT,reduceCtorEq,Int.reduceToNat,hl,ha0,hi0,htq3,hcq3,CL,LTN]
    exact hK
  intro w4 e tkq5 τq5 hcq5
  subst e
  simp only at h
  have hcq5 := bq (n := τ.next) hcq5 (by first | omega | (simp only [ag,aj]; omega))
  try simp -implicitDefEqProofs only [TT,Ic.t,Ic.ci,Nat.reduceEqDiff,reduceIte,Nat.reduceAdd,Nat.reduceLT,reduceCtorEq,Int.reduceToNat,hl,ha0,hi0,CL,LTN] at hcq5
  injection h with h; subst h
  simp -implicitDefEqProofs only [dg,TT,Ic.t,Ic.ci,Nat.reduceEqDiff,reduceIte,Nat.reduceAdd,Nat.reduceLT,reduceCtorEq,Int.reduceToNat,hl,ha0,hi0,hcq5,CL,LTN]
  exact hK
theorem ug (p1 : (List Int)) (p2 : Int) (r : Int) (h : eo p1 p2 = some r) (lk : Bool) (d : Option Nat) (K : au) (fr : TF) (tk : TK) (τ : TH) (o0 : Nat) (hl : τ.lock ≤ τ.next) (ha0 : τ.at o0 = some ⟨ka,[.int .i64 p2]⟩) (hi0 : o0 < τ.next) : fv G lk dj [.sl (List.map (TV.int .i64) p1),.func fb [] [.ptr o0 0]] d K fr tk τ = K (fu fr d (.int .i64 r)) tk τ :=
  aw (ky p1 p2 r h τ o0 hl ha0 hi0) (ky p1 p2 r h (τ.locked τ.next) o0 (Nat.le_refl _) (by rw [za0i]; exact ha0) hi0) (by simp -implicitDefEqProofs only [TT,Ic.t,Ic.ci,Nat.reduceEqDiff,reduceIte,Nat.reduceAdd,Nat.reduceLT,reduceCtorEq,Int.reduceToNat,hl,ha0,hi0,CL,LTN])
noncomputable def bw (p1 : (List Int)) (p2 : Int) : Option Bool :=
 eo p1 p2 >>= fun y1 =>
 some (decide ((0 : Int) ≤ y1))
theorem jv (p1 : (List Int)) (p2 : Int) (r : Bool) (h : bw p1 p2 = some r) (τ : TH) (o0 : Nat) (hl : τ.lock ≤ τ.next) (ha0 : τ.at o0 = some ⟨ka,[.int .i64 p2]⟩) (hi0 : o0 < τ.next) : Ru G bz [.sl (List.map (TV.int .i64) p1),.func fb [] [.ptr o0 0]] τ (.bool r) τ := by
  refine jk fun K hK => ?_
  rw [b7 t4 (Nat.le_of_ble_eq_true rfl)]
  unfold bw at h
  obtain ⟨y1,hy1,h⟩ := ob h
  have k2 := ug p1 p2 _ hy1
  try simp only [CL,MC,Int.reduceToNat] at k2
  injection h with h; subst h
  simp -implicitDefEqProofs only [t8,TT,Ic.t,Ic.ci,Nat.reduceEqDiff,reduceIte,Nat.reduceAdd,Nat.reduceLT,reduceCtorEq,Int.reduceToNat,hl,ha0,hi0,k2,CL,LTN]
  exact hK
theorem sa (p1 : (List Int)) (p2 : Int) (r : Bool) (h : bw p1 p2 = some r) (lk : Bool) (d : Option Nat) (K : au) (fr : TF) (tk : TK) (τ : TH) (o0 : Nat) (hl : τ.lock ≤ τ.next) (ha0 : τ.at o0 = some ⟨ka,[.int .i64 p2]⟩) (hi0 : o0 < τ.next) : fv G lk bz [.sl (List.map (TV.int .i64) p1),.func fb [] [.ptr o0 0]] d K fr tk τ = K (fu fr d (.bool r)) tk τ :=
  aw (jv p1 p2 r h τ o0 hl ha0 hi0) (jv p1 p2 r h (τ.locked τ.next) o0 (Nat.le_refl _) (by rw [za0i]; exact ha0) hi0) (by simp -implicitDefEqProofs only [TT,Ic.t,Ic.ci,Nat.reduceEqDiff,reduceIte,Nat.reduceAdd,Nat.reduceLT,reduceCtorEq,Int.reduceToNat,hl,ha0,hi0,CL,LTN])
noncomputable def dx (v0 : aa) (v1 : Int) (v2 : Int) (v4 : (List ac)) (v5 : Int) (v3 : (List ByteArray)) (v6 : Int) : Option (LS ((List ByteArray) × Int) (LX ((List ByteArray)) (Bool))) :=
 if v6 < v5 then
  ixL v4 v6 >>= fun y2 =>
  mg y2.Account >>= fun y4 =>
  if y4 = true then
   mf y2.Keys v2 (16 : Int) >>= fun y7 =>
   if y7 = true then
    if (v3.length + 1) * 16 ≤ 140737488355328 then
     some (.nx ((v3 ++ [y2.Account]),(IntKind.i64.wrap (v6 + (1 : Int)))))
    else
     none
   else
   some (.dn (.rt false))
  else
  some (.dn (.rt false))
 else
 some (.dn (.ex v3))
noncomputable def iu (v0 : aa) (v1 : Int) (v2 : Int) (v4 : (List ac)) (v5 : Int) (v3 : (List ByteArray)) (v6 : Int) : Option (LX ((List ByteArray)) (Bool)) := ko (fun st => dx v0 v1 v2 v4 v5 st.1 st.2) (v3,v6)
theorem w8 (v0 : aa) (v1 : Int) (v2 : Int) (v4 : (List ac)) (v5 : Int) (v3 : (List ByteArray)) (v6 : Int) : iu v0 v1 v2 v4 v5 v3 v6 = dx v0 v1 v2 v4 v5 v3 v6 >>= LS.go (fun st => iu v0 v1 v2 v4 v5 st.1 st.2) := ei (fun st => dx v0 v1 v2 v4 v5 st.1 st.2) (v3,v6)
def nj (v0 : aa) (v1 : Int) (v2 : Int) (v4 : (List ac)) (v5 : Int) (v3 : (List ByteArray)) (v6 : Int) (r : LX ((List ByteArray)) (Bool)) : Prop := ∀ (τ : TH) (o0 : Nat) (o1 : Nat) (n0 : Nat) (ty0 : TypeId) (hnn0 : n0 = v3.length) (hty0 : n0 = 0 ∨ ty0 = ek) (hl : τ.lock ≤ τ.next) (ha0 : τ.at o0 = some ⟨aq,[.str v0.ID,.sl (List.map ac.tv v0.Parties),.sl (List.map af.tv v0.Arcs),.sl (List.map (TV.int .i64) v0.Leaders),.sl (List.map TV.str v0.Locks),.int .i64 v0.Start,.int .i64 v0.Delta]⟩) (hi0 : o0 < τ.next) (ha1 : τ.at o1 = some ⟨ka,[.int .i64 v1]⟩) (hi1 : o1 < τ.next) (Q : TEx → au) (hQ0 : ∀ v : (List ByteArray),r = (.ex v) → ∀ (fr : TF) (tk2 : TK) (τ2 : TH),∀ (u0 : TypeId),(v.length = 0 ∨ u0 = ek) → lkp fr 1 = .ptr o0 0 → lkp fr 3 = .ptr o1 0 → lkp fr 5 = .sla 0 (List.map TV.str v) → tk2.take 1 = [some (v.length,u0)] → τ2.cut τ.next = τ → Q (.exit 0) fr tk2 τ2) (hQ1 : ∀ v : Bool,r = (.rt v) → ∀ (tk2 : TK) (τ2 : TH),τ2.cut τ.next = τ → Q .ret [(2,.bool v)] tk2 τ2) ,tW G (.loop [1,3,4,5,59,60,61] kj) Q [(1,.ptr o0 0),(3,.ptr o1 0),(4,.int .i64 v2),(5,.sla 0 (List.map TV.str v3)),(59,.sl (List.map ac.tv v4)),(60,.int .i64 v5),(61,.int .i64 v6)] [some (n0,ty0)] τ
theorem zalq (v0 : aa) (v1 : Int) (v2 : Int) (v4 : (List ac)) (v5 : Int) (v3 : (List ByteArray)) (v6 : Int) (r : LX ((List ByteArray)) (Bool)) (h : iu v0 v1 v2 v4 v5 v3 v6 = some r) : nj v0 v1 v2 v4 v5 v3 v6 r := by
  refine cy (f := fun st => dx v0 v1 v2 v4 v5 st.1 st.2) (P := fun st r => ∀ (v3 : (List ByteArray)) (v6 : Int),(v3,v6) = st → nj v0 v1 v2 v4 v5 v3 v6 r) ?_ h v3 v6 rfl
  clear h r v6 v3
  intro st o h r ih v3 v6 hst τ o0 o1  n0 ty0 hnn0 hty0 hl ha0 hi0 ha1 hi1 Q hQ0 hQ1
  subst hst
  have h : dx v0 v1 v2 v4 v5 v3 v6 = some o := h
  unfold dx at h
  subst hnn0
  refine jm fun LQ hn hr he => ?_
  by_cases c1 : v6 < v5
  · rw [if_pos c1] at h
    obtain ⟨y2,hy2,h⟩ := ob h
    have f3 := a9 hy2
    have f3a := (f3.2.2 ac.tv).1
    have f3b := (f3.2.2 ac.tv).2
    try simp only [CL,MC,Int.reduceToNat] at f3 f3a f3b
    obtain ⟨y4,hy4,h⟩ := ob h
    have k5 := zv y2.Account _ hy4
    try simp only [CL,MC,Int.reduceToNat] at k5
    by_cases c6 : y4 = true
    · rw [if_pos c6] at h
      obtain ⟨y7,hy7,h⟩ := ob h
      have k8 := zae5 y2.Keys v2 (16 : Int) _ hy7
      try simp only [CL,MC,Int.reduceToNat] at k8
      by_cases c9 : y7 = true
      · rw [if_pos c9] at h
        obtain ⟨c10,h⟩ := ifS h
        have f11 : 1 ≤ maxLen := by unfold maxLen; omega
        have f12 : v3.length + 1 ≤ maxLen := by unfold maxLen; omega
        have f13 : ((List.map TV.str v3).all fun e => e.cells.length == 1) = true := allc (fun _ => rfl) _
        have f14 : List.map TV.str v3 ++ List.map TV.str [y2.Account] = List.map TV.str (v3 ++ [y2.Account]) := appn _ _
        try simp only [CL,List.map_cons,List.map_nil] at f14
        injection h with h; subst h
        have ih := ih (v3 ++ [y2.Account]) (IntKind.i64.wrap (v6 + (1 : Int))) rfl
        unfold nj at ih
        simp -implicitDefEqProofs only [kx,kw,ku,List.isEmpty_cons,g8,tD,pnK,gz,List.filter_cons,List.filter_nil,List.filterMap_cons,List.filterMap_nil,b9,eq,me,d6,Ins.dsts,Ins.looks,I.ops,ti,rg,List.all_cons,List.all_nil,List.any_cons,List.any_nil,List.contains_cons,List.contains_nil,List.append_nil,List.nil_append,List.cons_append,Option.toList_some,Option.toList_none,Option.isSome_some,Option.isSome_none,Bool.and_true,Bool.true_and,Bool.and_false,Bool.false_and,Bool.or_false,Bool.false_or,Bool.or_true,Bool.true_or,Bool.not_false,Bool.not_true,and_true,true_and,and_false,false_and,Nat.reduceBEq,bne_iff_ne,kj,bh,TT,Ic.t,Ic.ci,Nat.reduceEqDiff,reduceIte,Nat.reduceAdd,Nat.reduceMul,Nat.reduceLT,Nat.reduceLeDiff,Nat.reduceSub,reduceCtorEq,Int.reduceEq,Int.reduceNe,Int.reduceToNat,Int.reduceLT,Int.reduceLE,Int.reduceNeg,hl,ha0,hi0,ha1,hi1,hty0,c1,f3.1,f3.2.1,f3a,f3b,k5,c6,k8,c9,c10,f11,f12,f13,f14,CL,LTN]
        rw [hn]
        simp -implicitDefEqProofs only [TT,Ic.t,Ic.ci,Nat.reduceEqDiff,reduceIte,Nat.reduceAdd,Nat.reduceMul,Nat.reduceLT,Nat.reduceLeDiff,Nat.reduceSub,reduceCtorEq,Int.reduceEq,Int.reduceNe,Int.reduceToNat,Int.reduceLT,Int.reduceLE,Int.reduceNeg,hl,ha0,hi0,ha1,hi1,hty0,c1,f3.1,f3.2.1,f3a,f3b,k5,c6,k8,c9,c10,f11,f12,f13,f14,CL,LTN]
        exact ih  τ o0 o1  (v3.length + 1) ek (by first | rfl | simp [ap]) (by first | exact hty0 | exact Or.inr rfl | simp) (by first | assumption | (simp only [ag,ah]; assumption)) (by simp -implicitDefEqProofs only [TT,Ic.t,Ic.ci,Nat.reduceEqDiff,reduceIte,Nat.reduceAdd,Nat.reduceMul,Nat.reduceLT,Nat.reduceLeDiff,Nat.reduceSub,reduceCtorEq,Int.reduceEq,Int.reduceNe,Int.reduceToNat,Int.reduceLT,Int.reduceLE,Int.reduceNeg,hl,ha0,hi0,ha1,hi1,hty0,c1,f3.1,f3.2.1,f3a,f3b,k5,c6,k8,c9,c10,f11,f12,f13,f14,CL,LTN]) (by first | assumption | (simp only [ag,ah]; assumption)) (by simp -implicitDefEqProofs only [TT,Ic.t,Ic.ci,Nat.reduceEqDiff,reduceIte,Nat.reduceAdd,Nat.reduceMul,Nat.reduceLT,Nat.reduceLeDiff,Nat.reduceSub,reduceCtorEq,Int.reduceEq,Int.reduceNe,Int.reduceToNat,Int.reduceLT,Int.reduceLE,Int.reduceNeg,hl,ha0,hi0,ha1,hi1,hty0,c1,f3.1,f3.2.1,f3a,f3b,k5,c6,k8,c9,c10,f11,f12,f13,f14,CL,LTN]) (by first | assumption | (simp only [ag,ah]; assumption)) Q hQ0 hQ1
      rw [if_neg c9] at h
      have c9 := Bool.eq_false_iff.2 c9
      injection h with h; subst h
      obtain rfl : _ = r := ih
      simp -implicitDefEqProofs only [kx,kw,ku,List.isEmpty_cons,g8,tD,pnK,gz,List.filter_cons,List.filter_nil,List.filterMap_cons,List.filterMap_nil,b9,eq,me,d6,Ins.dsts,Ins.looks,I.ops,ti,rg,List.all_cons,List.all_nil,List.any_cons,List.any_nil,List.contains_cons,List.contains_nil,List.append_nil,List.nil_append,List.cons_append,Option.toList_some,Option.toList_none,Option.isSome_some,Option.isSome_none,Bool.and_true,Bool.true_and,Bool.and_false,Bool.false_and,Bool.or_false,Bool.false_or,Bool.or_true,Bool.true_or,Bool.not_false,Bool.not_true,and_true,true_and,and_false,false_and,Nat.reduceBEq,bne_iff_ne,kj,bh,TT,Ic.t,Ic.ci,Nat.reduceEqDiff,reduceIte,Nat.reduceAdd,Nat.reduceMul,Nat.reduceLT,Nat.reduceLeDiff,Nat.reduceSub,reduceCtorEq,Int.reduceEq,Int.reduceNe,Int.reduceToNat,Int.reduceLT,Int.reduceLE,Int.reduceNeg,hl,ha0,hi0,ha1,hi1,hty0,he,hr,c1,f3.1,f3.2.1,f3a,f3b,k5,c6,k8,c9,CL,LTN]
      exact hQ1 false rfl  _ _  (by first | exact bp (Nat.le_refl _) | (simp -implicitDefEqProofs only [TT,Ic.t,Ic.ci,Nat.reduceEqDiff,reduceIte,Nat.reduceAdd,Nat.reduceMul,Nat.reduceLT,Nat.reduceLeDiff,Nat.reduceSub,reduceCtorEq,Int.reduceEq,Int.reduceNe,Int.reduceToNat,Int.reduceLT,Int.reduceLE,Int.reduceNeg,hl,ha0,hi0,ha1,hi1,hty0,c1,f3.1,f3.2.1,f3a,f3b,k5,c6,k8,c9,CL,LTN]))
    rw [if_neg c6] at h
    have c6 := Bool.eq_false_iff.2 c6
    injection h with h; subst h
    obtain rfl : _ = r := ih
    simp -implicitDefEqProofs only [kx,kw,ku,List.isEmpty_cons,g8,tD,pnK,gz,List.filter_cons,List.filter_nil,List.filterMap_cons,List.filterMap_nil,b9,eq,me,d6,Ins.dsts,Ins.looks,I.ops,ti,rg,List.all_cons,List.all_nil,List.any_cons,List.any_nil,List.contains_cons,List.contains_nil,List.append_nil,List.nil_append,List.cons_append,Option.toList_some,Option.toList_none,Option.isSome_some,Option.isSome_none,Bool.and_true,Bool.true_and,Bool.and_false,Bool.false_and,Bool.or_false,Bool.false_or,Bool.or_true,Bool.true_or,Bool.not_false,Bool.not_true,and_true,true_and,and_false,false_and,Nat.reduceBEq,bne_iff_ne,kj,bh,TT,Ic.t,Ic.ci,Nat.reduceEqDiff,reduceIte,Nat.reduceAdd,Nat.reduceMul,Nat.reduceLT,Nat.reduceLeDiff,Nat.reduceSub,reduceCtorEq,Int.reduceEq,Int.reduceNe,Int.reduceToNat,Int.reduceLT,Int.reduceLE,Int.reduceNeg,hl,ha0,hi0,ha1,hi1,hty0,he,hr,c1,f3.1,f3.2.1,f3a,f3b,k5,c6,CL,LTN]
    exact hQ1 false rfl  _ _  (by first | exact bp (Nat.le_refl _) | (simp -implicitDefEqProofs only [TT,Ic.t,Ic.ci,Nat.reduceEqDiff,reduceIte,Nat.reduceAdd,Nat.reduceMul,Nat.reduceLT,Nat.reduceLeDiff,Nat.reduceSub,reduceCtorEq,Int.reduceEq,Int.reduceNe,Int.reduceToNat,Int.reduceLT,Int.reduceLE,Int.reduceNeg,hl,ha0,hi0,ha1,hi1,hty0,c1,f3.1,f3.2.1,f3a,f3b,k5,c6,CL,LTN]))
  rw [if_neg c1] at h
  injection h with h; subst h
  obtain rfl : _ = r := ih
  simp -implicitDefEqProofs only [kx,kw,ku,List.isEmpty_cons,g8,tD,pnK,gz,List.filter_cons,List.filter_nil,List.filterMap_cons,List.filterMap_nil,b9,eq,me,d6,Ins.dsts,Ins.looks,I.ops,ti,rg,List.all_cons,List.all_nil,List.any_cons,List.any_nil,List.contains_cons,List.contains_nil,List.append_nil,List.nil_append,List.cons_append,Option.toList_some,Option.toList_none,Option.isSome_some,Option.isSome_none,Bool.and_true,Bool.true_and,Bool.and_false,Bool.false_and,Bool.or_false,Bool.false_or,Bool.or_true,Bool.true_or,Bool.not_false,Bool.not_true,and_true,true_and,and_false,false_and,Nat.reduceBEq,bne_iff_ne,kj,bh,TT,Ic.t,Ic.ci,Nat.reduceEqDiff,reduceIte,Nat.reduceAdd,Nat.reduceMul,Nat.reduceLT,Nat.reduceLeDiff,Nat.reduceSub,reduceCtorEq,Int.reduceEq,Int.reduceNe,Int.reduceToNat,Int.reduceLT,Int.reduceLE,Int.reduceNeg,hl,ha0,hi0,ha1,hi1,hty0,he,hr,c1,CL,LTN]
  exact hQ0 v3 rfl  _ _ _ ty0 (by first | exact hty0 | exact Or.inr rfl | simp) (by first | rfl | (simp -implicitDefEqProofs only [TT,Ic.t,Ic.ci,Nat.reduceEqDiff,reduceIte,Nat.reduceAdd,Nat.reduceMul,Nat.reduceLT,Nat.reduceLeDiff,Nat.reduceSub,reduceCtorEq,Int.reduceEq,Int.reduceNe,Int.reduceToNat,Int.reduceLT,Int.reduceLE,Int.reduceNeg,hl,ha0,hi0,ha1,hi1,hty0,c1,CL,LTN])) (by first | rfl | (simp -implicitDefEqProofs only [TT,Ic.t,Ic.ci,Nat.reduceEqDiff,reduceIte,Nat.reduceAdd,Nat.reduceMul,Nat.reduceLT,Nat.reduceLeDiff,Nat.reduceSub,reduceCtorEq,Int.reduceEq,Int.reduceNe,Int.reduceToNat,Int.reduceLT,Int.reduceLE,Int.reduceNeg,hl,ha0,hi0,ha1,hi1,hty0,c1,CL,LTN])) (by first | rfl | (simp -implicitDefEqProofs only [TT,Ic.t,Ic.ci,Nat.reduceEqDiff,reduceIte,Nat.reduceAdd,Nat.reduceMul,Nat.reduceLT,Nat.reduceLeDiff,Nat.reduceSub,reduceCtorEq,Int.reduceEq,Int.reduceNe,Int.reduceToNat,Int.reduceLT,Int.reduceLE,Int.reduceNeg,hl,ha0,hi0,ha1,hi1,hty0,c1,CL,LTN])) (by first | rfl | (simp -implicitDefEqProofs only [TT,Ic.t,Ic.ci,Nat.reduceEqDiff,reduceIte,Nat.reduceAdd,Nat.reduceMul,Nat.reduceLT,Nat.reduceLeDiff,Nat.reduceSub,reduceCtorEq,Int.reduceEq,Int.reduceNe,Int.reduceToNat,Int.reduceLT,Int.reduceLE,Int.reduceNeg,hl,ha0,hi0,ha1,hi1,hty0,c1,CL,LTN])) (by first | exact bp (Nat.le_refl _) | (simp -implicitDefEqProofs only [TT,Ic.t,Ic.ci,Nat.reduceEqDiff,reduceIte,Nat.reduceAdd,Nat.reduceMul,Nat.reduceLT,Nat.reduceLeDiff,Nat.reduceSub,reduceCtorEq,Int.reduceEq,Int.reduceNe,Int.reduceToNat,Int.reduceLT,Int.reduceLE,Int.reduceNeg,hl,ha0,hi0,ha1,hi1,hty0,c1,CL,LTN]))
noncomputable def dw (v0 : aa) (v1 : Int) (v2 : (List ByteArray)) (v4 : (List af)) (v5 : Int) (v3 : (List da)) (v6 : Int) : Option (LS ((List da) × Int) (LX ((List da)) (Bool))) :=
 if v6 < v5 then
  ixL v4 v6 >>= fun y2 =>
  up (⟨y2.From,y2.To,y2.Ledger,y2.Asset,y2.Amount⟩ : af) v1 >>= fun y4 =>
  if y4 = true then
   if (v3.length + 1) * 16 ≤ 140737488355328 then
    some (.nx ((v3 ++ [(⟨y2.From,y2.To⟩ : da)]),(IntKind.i64.wrap (v6 + (1 : Int)))))
   else
    none
  else
  some (.dn (.rt false))
 else
 some (.dn (.ex v3))
noncomputable def gt (v0 : aa) (v1 : Int) (v2 : (List ByteArray)) (v4 : (List af)) (v5 : Int) (v3 : (List da)) (v6 : Int) : Option (LX ((List da)) (Bool)) := ko (fun st => dw v0 v1 v2 v4 v5 st.1 st.2) (v3,v6)
theorem wz (v0 : aa) (v1 : Int) (v2 : (List ByteArray)) (v4 : (List af)) (v5 : Int) (v3 : (List da)) (v6 : Int) : gt v0 v1 v2 v4 v5 v3 v6 = dw v0 v1 v2 v4 v5 v3 v6 >>= LS.go (fun st => gt v0 v1 v2 v4 v5 st.1 st.2) := ei (fun st => dw v0 v1 v2 v4 v5 st.1 st.2) (v3,v6)
def ni (v0 : aa) (v1 : Int) (v2 : (List ByteArray)) (v4 : (List af)) (v5 : Int) (v3 : (List da)) (v6 : Int) (r : LX ((List da)) (Bool)) : Prop := ∀ (τ : TH) (o0 : Nat) (o1 : Nat) (n0 : Nat) (ty0 : TypeId) (hnn0 : n0 = v2.length) (hty0 : n0 = 0 ∨ ty0 = ek) (n1 : Nat) (ty1 : TypeId) (hnn1 : n1 = v3.length) (hty1 : n1 = 0 ∨ ty1 = jy) (hl : τ.lock ≤ τ.next) (ha0 : τ.at o0 = some ⟨aq,[.str v0.ID,.sl (List.map ac.tv v0.Parties),.sl (List.map af.tv v0.Arcs),.sl (List.map (TV.int .i64) v0.Leaders),.sl (List.map TV.str v0.Locks),.int .i64 v0.Start,.int .i64 v0.Delta]⟩) (hi0 : o0 < τ.next) (ha1 : τ.at o1 = some ⟨ka,[.int .i64 v1]⟩) (hi1 : o1 < τ.next) (Q : TEx → au) (hQ0 : ∀ v : (List da),r = (.ex v) → ∀ (fr : TF) (tk2 : TK) (τ2 : TH),∀ (u0 : TypeId),(v2.length = 0 ∨ u0 = ek) → ∀ (u1 : TypeId),(v.length = 0 ∨ u1 = jy) → lkp fr 1 = .ptr o0 0 → lkp fr 3 = .ptr o1 0 → lkp fr 5 = .sla 0 (List.map TV.str v2) → lkp fr 8 = .sla 1 (List.map da.tv v) → tk2.take 2 = [some (v2.length,u0),some (v.length,u1)] → τ2.cut τ.next = τ → Q (.exit 2) fr tk2 τ2) (hQ1 : ∀ v : Bool,r = (.rt v) → ∀ (tk2 : TK) (τ2 : TH),τ2.cut τ.next = τ → Q .ret [(2,.bool v)] tk2 τ2) ,tW G (.loop [1,3,5,8,83,84,85] oq) Q [(1,.ptr o0 0),(3,.ptr o1 0),(5,.sla 0 (List.map TV.str v2)),(8,.sla 1 (List.map da.tv v3)),(83,.sl (List.map af.tv v4)),(84,.int .i64 v5),(85,.int .i64 v6)] [some (n0,ty0),some (n1,ty1)] τ
theorem zalp (v0 : aa) (v1 : Int) (v2 : (List ByteArray)) (v4 : (List af)) (v5 : Int) (v3 : (List da)) (v6 : Int) (r : LX ((List da)) (Bool)) (h : gt v0 v1 v2 v4 v5 v3 v6 = some r) : ni v0 v1 v2 v4 v5 v3 v6 r := by
  refine cy (f := fun st => dw v0 v1 v2 v4 v5 st.1 st.2) (P := fun st r => ∀ (v3 : (List da)) (v6 : Int),(v3,v6) = st → ni v0 v1 v2 v4 v5 v3 v6 r) ?_ h v3 v6 rfl
  clear h r v6 v3
  intro st o h r ih v3 v6 hst τ o0 o1  n0 ty0 hnn0 hty0 n1 ty1 hnn1 hty1 hl ha0 hi0 ha1 hi1 Q hQ0 hQ1
  subst hst
  have h : dw v0 v1 v2 v4 v5 v3 v6 = some o := h
  unfold dw at h
  subst hnn0
  subst hnn1
  refine jm fun LQ hn hr he => ?_
  by_cases c1 : v6 < v5
  · rw [if_pos c1] at h
    obtain ⟨y2,hy2,h⟩ := ob h
    have f3 := a9 hy2
    have f3a := (f3.2.2 af.tv).1
    have f3b := (f3.2.2 af.tv).2
    try simp only [CL,MC,Int.reduceToNat] at f3 f3a f3b
    obtain ⟨y4,hy4,h⟩ := ob h
    have k5 := zawy (⟨y2.From,y2.To,y2.Ledger,y2.Asset,y2.Amount⟩ : af) v1 _ hy4
    try simp only [CL,MC,Int.reduceToNat] at k5
    by_cases c6 : y4 = true
    · rw [if_pos c6] at h
      obtain ⟨c7,h⟩ := ifS h
      have f8 : 1 ≤ maxLen := by unfold maxLen; omega
      have f9 : v3.length + 1 ≤ maxLen := by unfold maxLen; omega
      have f10 : ((List.map da.tv v3).all fun e => e.cells.length == 2) = true := allc (fun _ => rfl) _
      have f11 : List.map da.tv v3 ++ List.map da.tv [(⟨y2.From,y2.To⟩ : da)] = List.map da.tv (v3 ++ [(⟨y2.From,y2.To⟩ : da)]) := appn _ _
      try simp only [CL,List.map_cons,List.map_nil] at f11
      injection h with h; subst h
      have ih := ih (v3 ++ [(⟨y2.From,y2.To⟩ : da)]) (IntKind.i64.wrap (v6 + (1 : Int))) rfl
      unfold ni at ih
      simp -implicitDefEqProofs only [kx,kw,ku,List.isEmpty_cons,g8,tD,pnK,gz,List.filter_cons,List.filter_nil,List.filterMap_cons,List.filterMap_nil,b9,eq,me,d6,Ins.dsts,Ins.looks,I.ops,ti,rg,List.all_cons,List.all_nil,List.any_cons,List.any_nil,List.contains_cons,List.contains_nil,List.append_nil,List.nil_append,List.cons_append,Option.toList_some,Option.toList_none,Option.isSome_some,Option.isSome_none,Bool.and_true,Bool.true_and,Bool.and_false,Bool.false_and,Bool.or_false,Bool.false_or,Bool.or_true,Bool.true_or,Bool.not_false,Bool.not_true,and_true,true_and,and_false,false_and,Nat.reduceBEq,bne_iff_ne,oq,bh,TT,Ic.t,Ic.ci,Nat.reduceEqDiff,reduceIte,Nat.reduceAdd,Nat.reduceMul,Nat.reduceLT,Nat.reduceLeDiff,Nat.reduceSub,reduceCtorEq,Int.reduceEq,Int.reduceNe,Int.reduceToNat,Int.reduceLT,Int.reduceLE,Int.reduceNeg,hl,ha0,hi0,ha1,hi1,hty0,hty1,c1,f3.1,f3.2.1,f3a,f3b,k5,c6,c7,f8,f9,f10,f11,CL,LTN]
      rw [hn]
      simp -implicitDefEqProofs only [TT,Ic.t,Ic.ci,Nat.reduceEqDiff,reduceIte,Nat.reduceAdd,Nat.reduceMul,Nat.reduceLT,Nat.reduceLeDiff,Nat.reduceSub,reduceCtorEq,Int.reduceEq,Int.reduceNe,Int.reduceToNat,Int.reduceLT,Int.reduceLE,Int.reduceNeg,hl,ha0,hi0,ha1,hi1,hty0,hty1,c1,f3.1,f3.2.1,f3a,f3b,k5,c6,c7,f8,f9,f10,f11,CL,LTN]
      exact ih  τ o0 o1  _ ty0 (by first | rfl | simp [ap]) (by first | exact hty0 | exact Or.inr rfl | simp) (v3.length + 1) jy (by first | rfl | simp [ap]) (by first | exact hty1 | exact Or.inr rfl | simp) (by first | assumption | (simp only [ag,ah]; assumption)) (by simp -implicitDefEqProofs only [TT,Ic.t,Ic.ci,Nat.reduceEqDiff,reduceIte,Nat.reduceAdd,Nat.reduceMul,Nat.reduceLT,Nat.reduceLeDiff,Nat.reduceSub,reduceCtorEq,Int.reduceEq,Int.reduceNe,Int.reduceToNat,Int.reduceLT,Int.reduceLE,Int.reduceNeg,hl,ha0,hi0,ha1,hi1,hty0,hty1,c1,f3.1,f3.2.1,f3a,f3b,k5,c6,c7,f8,f9,f10,f11,CL,LTN]) (by first | assumption | (simp only [ag,ah]; assumption)) (by simp -implicitDefEqProofs only [TT,Ic.t,Ic.ci,Nat.reduceEqDiff,reduceIte,Nat.reduceAdd,Nat.reduceMul,Nat.reduceLT,Nat.reduceLeDiff,Nat.reduceSub,reduceCtorEq,Int.reduceEq,Int.reduceNe,Int.reduceToNat,Int.reduceLT,Int.reduceLE,Int.reduceNeg,hl,ha0,hi0,ha1,hi1,hty0,hty1,c1,f3.1,f3.2.1,f3a,f3b,k5,c6,c7,f8,f9,f10,f11,CL,LTN]) (by first | assumption | (simp only [ag,ah]; assumption)) Q hQ0 hQ1
    rw [if_neg c6] at h
    have c6 := Bool.eq_false_iff.2 c6
    injection h with h; subst h
    obtain rfl : _ = r := ih
    simp -implicitDefEqProofs only [kx,kw,ku,List.isEmpty_cons,g8,tD,pnK,gz,List.filter_cons,List.filter_nil,List.filterMap_cons,List.filterMap_nil,b9,eq,me,d6,Ins.dsts,Ins.looks,I.ops,ti,rg,List.all_cons,List.all_nil,List.any_cons,List.any_nil,List.contains_cons,List.contains_nil,List.append_nil,List.nil_append,List.cons_append,Option.toList_some,Option.toList_none,Option.isSome_some,Option.isSome_none,Bool.and_true,Bool.true_and,Bool.and_false,Bool.false_and,Bool.or_false,Bool.false_or,Bool.or_true,Bool.true_or,Bool.not_false,Bool.not_true,and_true,true_and,and_false,false_and,Nat.reduceBEq,bne_iff_ne,oq,bh,TT,Ic.t,Ic.ci,Nat.reduceEqDiff,reduceIte,Nat.reduceAdd,Nat.reduceMul,Nat.reduceLT,Nat.reduceLeDiff,Nat.reduceSub,reduceCtorEq,Int.reduceEq,Int.reduceNe,Int.reduceToNat,Int.reduceLT,Int.reduceLE,Int.reduceNeg,hl,ha0,hi0,ha1,hi1,hty0,hty1,he,hr,c1,f3.1,f3.2.1,f3a,f3b,k5,c6,CL,LTN]
    exact hQ1 false rfl  _ _  (by first | exact bp (Nat.le_refl _) | (simp -implicitDefEqProofs only [TT,Ic.t,Ic.ci,Nat.reduceEqDiff,reduceIte,Nat.reduceAdd,Nat.reduceMul,Nat.reduceLT,Nat.reduceLeDiff,Nat.reduceSub,reduceCtorEq,Int.reduceEq,Int.reduceNe,Int.reduceToNat,Int.reduceLT,Int.reduceLE,Int.reduceNeg,hl,ha0,hi0,ha1,hi1,hty0,hty1,c1,f3.1,f3.2.1,f3a,f3b,k5,c6,CL,LTN]))
  rw [if_neg c1] at h
  injection h with h; subst h
  obtain rfl : _ = r := ih
  simp -implicitDefEqProofs only [kx,kw,ku,List.isEmpty_cons,g8,tD,pnK,gz,List.filter_cons,List.filter_nil,List.filterMap_cons,List.filterMap_nil,b9,eq,me,d6,Ins.dsts,Ins.looks,I.ops,ti,rg,List.all_cons,List.all_nil,List.any_cons,List.any_nil,List.contains_cons,List.contains_nil,List.append_nil,List.nil_append,List.cons_append,Option.toList_some,Option.toList_none,Option.isSome_some,Option.isSome_none,Bool.and_true,Bool.true_and,Bool.and_false,Bool.false_and,Bool.or_false,Bool.false_or,Bool.or_true,Bool.true_or,Bool.not_false,Bool.not_true,and_true,true_and,and_false,false_and,Nat.reduceBEq,bne_iff_ne,oq,bh,TT,Ic.t,Ic.ci,Nat.reduceEqDiff,reduceIte,Nat.reduceAdd,Nat.reduceMul,Nat.reduceLT,Nat.reduceLeDiff,Nat.reduceSub,reduceCtorEq,Int.reduceEq,Int.reduceNe,Int.reduceToNat,Int.reduceLT,Int.reduceLE,Int.reduceNeg,hl,ha0,hi0,ha1,hi1,hty0,hty1,he,hr,c1,CL,LTN]
  exact hQ0 v3 rfl  _ _ _ ty0 (by first | exact hty0 | exact Or.inr rfl | simp) ty1 (by first | exact hty1 | exact Or.inr rfl | simp) (by first | rfl | (simp -implicitDefEqProofs only [TT,Ic.t,Ic.ci,Nat.reduceEqDiff,reduceIte,Nat.reduceAdd,Nat.reduceMul,Nat.reduceLT,Nat.reduceLeDiff,Nat.reduceSub,reduceCtorEq,Int.reduceEq,Int.reduceNe,Int.reduceToNat,Int.reduceLT,Int.reduceLE,Int.reduceNeg,hl,ha0,hi0,ha1,hi1,hty0,hty1,c1,CL,LTN])) (by first | rfl | (simp -implicitDefEqProofs only [TT,Ic.t,Ic.ci,Nat.reduceEqDiff,reduceIte,Nat.reduceAdd,Nat.reduceMul,Nat.reduceLT,Nat.reduceLeDiff,Nat.reduceSub,reduceCtorEq,Int.reduceEq,Int.reduceNe,Int.reduceToNat,Int.reduceLT,Int.reduceLE,Int.reduceNeg,hl,ha0,hi0,ha1,hi1,hty0,hty1,c1,CL,LTN])) (by first | rfl | (simp -implicitDefEqProofs only [TT,Ic.t,Ic.ci,Nat.reduceEqDiff,reduceIte,Nat.reduceAdd,Nat.reduceMul,Nat.reduceLT,Nat.reduceLeDiff,Nat.reduceSub,reduceCtorEq,Int.reduceEq,Int.reduceNe,Int.reduceToNat,Int.reduceLT,Int.reduceLE,Int.reduceNeg,hl,ha0,hi0,ha1,hi1,hty0,hty1,c1,CL,LTN])) (by first | rfl | (simp -implicitDefEqProofs only [TT,Ic.t,Ic.ci,Nat.reduceEqDiff,reduceIte,Nat.reduceAdd,Nat.reduceMul,Nat.reduceLT,Nat.reduceLeDiff,Nat.reduceSub,reduceCtorEq,Int.reduceEq,Int.reduceNe,Int.reduceToNat,Int.reduceLT,Int.reduceLE,Int.reduceNeg,hl,ha0,hi0,ha1,hi1,hty0,hty1,c1,CL,LTN])) (by first | rfl | (simp -implicitDefEqProofs only [TT,Ic.t,Ic.ci,Nat.reduceEqDiff,reduceIte,Nat.reduceAdd,Nat.reduceMul,Nat.reduceLT,Nat.reduceLeDiff,Nat.reduceSub,reduceCtorEq,Int.reduceEq,Int.reduceNe,Int.reduceToNat,Int.reduceLT,Int.reduceLE,Int.reduceNeg,hl,ha0,hi0,ha1,hi1,hty0,hty1,c1,CL,LTN])) (by first | exact bp (Nat.le_refl _) | (simp -implicitDefEqProofs only [TT,Ic.t,Ic.ci,Nat.reduceEqDiff,reduceIte,Nat.reduceAdd,Nat.reduceMul,Nat.reduceLT,Nat.reduceLeDiff,Nat.reduceSub,reduceCtorEq,Int.reduceEq,Int.reduceNe,Int.reduceToNat,Int.reduceLT,Int.reduceLE,Int.reduceNeg,hl,ha0,hi0,ha1,hi1,hty0,hty1,c1,CL,LTN]))
noncomputable def mh (p1 : aa) : Option Bool :=
 mg p1.ID >>= fun y1 =>
 if y1 = true then
  ir ((p1.Parties.length : Nat) : Int) (2 : Int) (6 : Int) >>= fun y4 =>
  if y4 = true then
   ir ((p1.Leaders.length : Nat) : Int) (1 : Int) (3 : Int) >>= fun y7 =>
   if y7 = true then
    ir ((p1.Arcs.length : Nat) : Int) (1 : Int) (12 : Int) >>= fun y10 =>
    if y10 = true then
     mf p1.Locks ((p1.Leaders.length : Nat) : Int) (32 : Int) >>= fun y13 =>
     if y13 = true then
      ir p1.Start (0 : Int) (1099511627776 : Int) >>= fun y16 =>
      if y16 = true then
       ir p1.Delta (1 : Int) (1048576 : Int) >>= fun y19 =>
       if y19 = true then
        iu p1 ((p1.Parties.length : Nat) : Int) ((p1.Leaders.length : Nat) : Int) p1.Parties ((p1.Parties.length : Nat) : Int) [] (0 : Int) >>= fun y22 =>
        match y22 with
        | .ex w23 =>
         gt p1 ((p1.Parties.length : Nat) : Int) w23 p1.Arcs ((p1.Arcs.length : Nat) : Int) [] (0 : Int) >>= fun y27 =>
         match y27 with
         | .ex w28 =>
          jg w23 >>= fun y32 =>
          if y32 = true then
           nh w28 >>= fun y35 =>
           if y35 = true then
            ri p1.Leaders >>= fun y38 =>
            if y38 = true then
             bw p1.Leaders ((p1.Parties.length : Nat) : Int) >>= fun y41 =>
             some (!y41)
            else
            some false
           else
           some false
          else
          some false
         | .rt w30 =>
          some w30
        | .rt w25 =>
         some w25
       else
       some false
      else
      some false
     else
     some false
    else
    some false
   else
   some false
  else
  some false
 else
 some false
theorem zae6 (p1 : aa) (r : Bool) (h : mh p1 = some r) (τ : TH) (hl : τ.lock ≤ τ.next) : Ru G nc [.agg [.str p1.ID,.sl (List.map ac.tv p1.Parties),.sl (List.map af.tv p1.Arcs),.sl (List.map (TV.int .i64) p1.Leaders),.sl (List.map TV.str p1.Locks),.int .i64 p1.Start,.int .i64 p1.Delta]] τ (.bool r) τ := by
  refine jk fun K hK => ?_
  rw [b7 zayy (Nat.le_of_ble_eq_true rfl)]
  unfold mh at h
  obtain ⟨y1,hy1,h⟩ := ob h
  have k2 := zv p1.ID _ hy1
  try simp only [CL,MC,Int.reduceToNat] at k2
  by_cases c3 : y1 = true
  · rw [if_pos c3] at h
    obtain ⟨y4,hy4,h⟩ := ob h
    have k5 := jn ((p1.Parties.length : Nat) : Int) (2 : Int) (6 : Int) _ hy4
    try simp only [CL,MC,Int.reduceToNat] at k5
    by_cases c6 : y4 = true
    · rw [if_pos c6] at h
      obtain ⟨y7,hy7,h⟩ := ob h
      have k8 := jn ((p1.Leaders.length : Nat) : Int) (1 : Int) (3 : Int) _ hy7
      try simp only [CL,MC,Int.reduceToNat] at k8
      by_cases c9 : y7 = true
      · rw [if_pos c9] at h
        obtain ⟨y10,hy10,h⟩ := ob h
        have k11 := jn ((p1.Arcs.length : Nat) : Int) (1 : Int) (12 : Int) _ hy10
        try simp only [CL,MC,Int.reduceToNat] at k11
        by_cases c12 : y10 = true
        · rw [if_pos c12] at h
          obtain ⟨y13,hy13,h⟩ := ob h
          have k14 := zae5 p1.Locks ((p1.Leaders.length : Nat) : Int) (32 : Int) _ hy13
          try simp only [CL,MC,Int.reduceToNat] at k14
          by_cases c15 : y13 = true
          · rw [if_pos c15] at h
            obtain ⟨y16,hy16,h⟩ := ob h
            have k17 := jn p1.Start (0 : Int) (1099511627776 : Int) _ hy16
            try simp only [CL,MC,Int.reduceToNat] at k17
            by_cases c18 : y16 = true
            · rw [if_pos c18] at h
              obtain ⟨y19,hy19,h⟩ := ob h
              have k20 := jn p1.Delta (1 : Int) (1048576 : Int) _ hy19
              try simp only [CL,MC,Int.reduceToNat] at k20
              by_cases c21 : y19 = true
              · rw [if_pos c21] at h
                obtain ⟨y22,hy22,h⟩ := ob h
                simp -implicitDefEqProofs only [kx,kw,ku,List.isEmpty_cons,g8,tD,pnK,gz,List.filter_cons,List.filter_nil,List.filterMap_cons,List.filterMap_nil,b9,eq,me,d6,Ins.dsts,Ins.looks,I.ops,ti,rg,List.all_cons,List.all_nil,List.any_cons,List.any_nil,List.contains_cons,List.contains_nil,List.append_nil,List.nil_append,List.cons_append,Option.toList_some,Option.toList_none,Option.isSome_some,Option.isSome_none,Bool.and_true,Bool.true_and,Bool.and_false,Bool.false_and,Bool.or_false,Bool.false_or,Bool.or_true,Bool.true_or,Bool.not_false,Bool.not_true,and_true,true_and,and_false,false_and,Nat.reduceBEq,bne_iff_ne,bh,TT,Ic.t,Ic.ci,Nat.reduceEqDiff,reduceIte,Nat.reduceAdd,Nat.reduceLT,reduceCtorEq,Int.reduceToNat,hl,k2,c3,k5,c6,k8,c9,k11,c12,k14,c15,k17,c18,k20,c21,CL,LTN]
                have Sy22 := zalq p1 ((p1.Parties.length : Nat) : Int) ((p1.Leaders.length : Nat) : Int) p1.Parties ((p1.Parties.length : Nat) : Int) [] (0 : Int) y22 hy22
                unfold nj at Sy22
                refine Sy22 _ τ.next (τ.next + 1) 0 0 (by first | rfl | simp [ap]) (by first | exact Or.inl rfl | exact Or.inr rfl | assumption | simp) (by first | assumption | omega | (simp only [ag,aj,ah,av]; omega)) (by simp -implicitDefEqProofs only [TT,Ic.t,Ic.ci,Nat.reduceEqDiff,reduceIte,Nat.reduceAdd,Nat.reduceLT,reduceCtorEq,Int.reduceToNat,hl,k2,c3,k5,c6,k8,c9,k11,c12,k14,c15,k17,c18,k20,c21,CL,LTN]) (by first | assumption | omega | (simp only [ag,aj,ah,av]; omega)) (by simp -implicitDefEqProofs only [TT,Ic.t,Ic.ci,Nat.reduceEqDiff,reduceIte,Nat.reduceAdd,Nat.reduceLT,reduceCtorEq,Int.reduceToNat,hl,k2,c3,k5,c6,k8,c9,k11,c12,k14,c15,k17,c18,k20,c21,CL,LTN]) (by first | assumption | omega | (simp only [ag,aj,ah,av]; omega)) _ ?_ ?_
                · intro w23 e frq24 tkq24 τq24 u0q24 uh0q24 g1q24 g3q24 g5q24 htq24 hcq24
                  subst e
                  simp only at h
                  have hcq24 := bq (n := τ.next + 2) hcq24 (by first | omega | (simp only [ag,aj]; omega))
                  try simp only [List.take_succ_cons,List.take_zero,List.take_nil,CL] at htq24
                  try simp -implicitDefEqProofs only [TT,Ic.t,Ic.ci,Nat.reduceEqDiff,reduceIte,Nat.reduceAdd,Nat.reduceLT,reduceCtorEq,Int.reduceToNat,hl,k2,c3,k5,c6,k8,c9,k11,c12,k14,c15,k17,c18,k20,c21,CL,LTN] at hcq24
                  obtain ⟨y27,hy27,h⟩ := ob h
                  simp -implicitDefEqProofs only [kx,kw,ku,List.isEmpty_cons,g8,tD,pnK,gz,List.filter_cons,List.filter_nil,List.filterMap_cons,List.filterMap_nil,b9,eq,me,d6,Ins.dsts,Ins.looks,I.ops,ti,rg,List.all_cons,List.all_nil,List.any_cons,List.any_nil,List.contains_cons,List.contains_nil,List.append_nil,List.nil_append,List.cons_append,Option.toList_some,Option.toList_none,Option.isSome_some,Option.isSome_none,Bool.and_true,Bool.true_and,Bool.and_false,Bool.false_and,Bool.or_false,Bool.false_or,Bool.or_true,Bool.true_or,Bool.not_false,Bool.not_true,and_true,true_and,and_false,false_and,Nat.reduceBEq,bne_iff_ne,bh,TT,Ic.t,Ic.ci,Nat.reduceEqDiff,reduceIte,Nat.reduceAdd,Nat.reduceLT,reduceCtorEq,Int.reduceToNat,hl,k2,c3,k5,c6,k8,c9,k11,c12,k14,c15,k17,c18,k20,c21,uh0q24,g1q24,g3q24,g5q24,htq24,hcq24,CL,LTN]
                  have Sy27 := zalp p1 ((p1.Parties.length : Nat) : Int) w23 p1.Arcs ((p1.Arcs.length : Nat) : Int) [] (0 : Int) y27 hy27
                  unfold ni at Sy27
                  refine Sy27 _ τ.next (τ.next + 1) w23.length u0q24 (by first | rfl | simp [ap]) (by first | exact Or.inl rfl | exact Or.inr rfl | assumption | simp) 0 0 (by first | rfl | simp [ap]) (by first | exact Or.inl rfl | exact Or.inr rfl | assumption | simp) (by first | assumption | omega | (simp only [ag,aj,ah,av]; omega)) (by simp -implicitDefEqProofs only [TT,Ic.t,Ic.ci,Nat.reduceEqDiff,reduceIte,Nat.reduceAdd,Nat.reduceLT,reduceCtorEq,Int.reduceToNat,hl,k2,c3,k5,c6,k8,c9,k11,c12,k14,c15,k17,c18,k20,c21,uh0q24,g1q24,g3q24,g5q24,htq24,hcq24,CL,LTN]) (by first | assumption | omega | (simp only [ag,aj,ah,av]; omega)) (by simp -implicitDefEqProofs only [TT,Ic.t,Ic.ci,Nat.reduceEqDiff,reduceIte,Nat.reduceAdd,Nat.reduceLT,reduceCtorEq,Int.reduceToNat,hl,k2,c3,k5,c6,k8,c9,k11,c12,k14,c15,k17,c18,k20,c21,uh0q24,g1q24,g3q24,g5q24,htq24,hcq24,CL,LTN]) (by first | assumption | omega | (simp only [ag,aj,ah,av]; omega)) _ ?_ ?_
                  · intro w28 e frq29 tkq29 τq29 u0q29 uh0q29 u1q29 uh1q29 g1q29 g3q29 g5q29 g8q29 htq29 hcq29
                    subst e
                    simp only at h
                    have hcq29 := bq (n := τ.next + 2) hcq29 (by first | omega | (simp only [ag,aj]; omega))
                    try simp only [List.take_succ_cons,List.take_zero,List.take_nil,CL] at htq29
                    try simp -implicitDefEqProofs only [TT,Ic.t,Ic.ci,Nat.reduceEqDiff,reduceIte,Nat.reduceAdd,Nat.reduceLT,reduceCtorEq,Int.reduceToNat,hl,k2,c3,k5,c6,k8,c9,k11,c12,k14,c15,k17,c18,k20,c21,uh0q24,g1q24,g3q24,g5q24,htq24,hcq24,CL,LTN] at hcq29
                    obtain ⟨y32,hy32,h⟩ := ob h
                    have k33 := zaex w23 _ hy32
                    try simp only [CL,MC,Int.reduceToNat] at k33
                    by_cases c34 : y32 = true
                    · rw [if_pos c34] at h
                      obtain ⟨y35,hy35,h⟩ := ob h
                      have k36 := zahn w28 _ hy35
                      try simp only [CL,MC,Int.reduceToNat] at k36
                      by_cases c37 : y35 = true
                      · rw [if_pos c37] at h
                        obtain ⟨y38,hy38,h⟩ := ob h
                        have k39 := zalo p1.Leaders _ hy38
                        try simp only [CL,MC,Int.reduceToNat] at k39
                        by_cases c40 : y38 = true
                        · rw [if_pos c40] at h
                          obtain ⟨y41,hy41,h⟩ := ob h
                          have k42 := sa p1.Leaders ((p1.Parties.length : Nat) : Int) _ hy41
                          try simp only [CL,MC,Int.reduceToNat] at k42
                          injection h with h; subst h
                          simp -implicitDefEqProofs only [kx,kw,ku,List.isEmpty_cons,g8,tD,pnK,gz,List.filter_cons,List.filter_nil,List.filterMap_cons,List.filterMap_nil,b9,eq,me,d6,Ins.dsts,Ins.looks,I.ops,ti,rg,List.all_cons,List.all_nil,List.any_cons,List.any_nil,List.contains_cons,List.contains_nil,List.append_nil,List.nil_append,List.cons_append,Option.toList_some,Option.toList_none,Option.isSome_some,Option.isSome_none,Bool.and_true,Bool.true_and,Bool.and_false,Bool.false_and,Bool.or_false,Bool.false_or,Bool.or_true,Bool.true_or,Bool.not_false,Bool.not_true,and_true,true_and,and_false,false_and,Nat.reduceBEq,bne_iff_ne,bh,TT,Ic.t,Ic.ci,Nat.reduceEqDiff,reduceIte,Nat.reduceAdd,Nat.reduceLT,reduceCtorEq,Int.reduceToNat,hl,k2,c3,k5,c6,k8,c9,k11,c12,k14,c15,k17,c18,k20,c21,uh0q24,g1q24,g3q24,g5q24,htq24,hcq24,uh0q29,uh1q29,g1q29,g3q29,g5q29,g8q29,htq29,hcq29,k33,c34,k36,c37,k39,c40,k42,CL,LTN]
                          exact hK
                        rw [if_neg c40] at h
                        have c40 := Bool.eq_false_iff.2 c40
                        injection h with h; subst h
                        simp -implicitDefEqProofs only [kx,kw,ku,List.isEmpty_cons,g8,tD,pnK,gz,List.filter_cons,List.filter_nil,List.filterMap_cons,List.filterMap_nil,b9,eq,me,d6,Ins.dsts,Ins.looks,I.ops,ti,rg,List.all_cons,List.all_nil,List.any_cons,List.any_nil,List.contains_cons,List.contains_nil,List.append_nil,List.nil_append,List.cons_append,Option.toList_some,Option.toList_none,Option.isSome_some,Option.isSome_none,Bool.and_true,Bool.true_and,Bool.and_false,Bool.false_and,Bool.or_false,Bool.false_or,Bool.or_true,Bool.true_or,Bool.not_false,Bool.not_true,and_true,true_and,and_false,false_and,Nat.reduceBEq,bne_iff_ne,bh,TT,Ic.t,Ic.ci,Nat.reduceEqDiff,reduceIte,Nat.reduceAdd,Nat.reduceLT,reduceCtorEq,Int.reduceToNat,hl,k2,c3,k5,c6,k8,c9,k11,c12,k14,c15,k17,c18,k20,c21,uh0q24,g1q24,g3q24,g5q24,htq24,hcq24,uh0q29,uh1q29,g1q29,g3q29,g5q29,g8q29,htq29,hcq29,k33,c34,k36,c37,k39,c40,CL,LTN]
                        exact hK
                      rw [if_neg c37] at h
                      have c37 := Bool.eq_false_iff.2 c37
                      injection h with h; subst h
                      simp -implicitDefEqProofs only [kx,kw,ku,List.isEmpty_cons,g8,tD,pnK,gz,List.filter_cons,List.filter_nil,List.filterMap_cons,List.filterMap_nil,b9,eq,me,d6,Ins.dsts,Ins.looks,I.ops,ti,rg,List.all_cons,List.all_nil,List.any_cons,List.any_nil,List.contains_cons,List.contains_nil,List.append_nil,List.nil_append,List.cons_append,Option.toList_some,Option.toList_none,Option.isSome_some,Option.isSome_none,Bool.and_true,Bool.true_and,Bool.and_false,Bool.false_and,Bool.or_false,Bool.false_or,Bool.or_true,Bool.true_or,Bool.not_false,Bool.not_true,and_true,true_and,and_false,false_and,Nat.reduceBEq,bne_iff_ne,bh,TT,Ic.t,Ic.ci,Nat.reduceEqDiff,reduceIte,Nat.reduceAdd,Nat.reduceLT,reduceCtorEq,Int.reduceToNat,hl,k2,c3,k5,c6,k8,c9,k11,c12,k14,c15,k17,c18,k20,c21,uh0q24,g1q24,g3q24,g5q24,htq24,hcq24,uh0q29,uh1q29,g1q29,g3q29,g5q29,g8q29,htq29,hcq29,k33,c34,k36,c37,CL,LTN]
                      exact hK
                    rw [if_neg c34] at h
                    have c34 := Bool.eq_false_iff.2 c34
                    injection h with h; subst h
                    simp -implicitDefEqProofs only [kx,kw,ku,List.isEmpty_cons,g8,tD,pnK,gz,List.filter_cons,List.filter_nil,List.filterMap_cons,List.filterMap_nil,b9,eq,me,d6,Ins.dsts,Ins.looks,I.ops,ti,rg,List.all_cons,List.all_nil,List.any_cons,List.any_nil,List.contains_cons,List.contains_nil,List.append_nil,List.nil_append,List.cons_append,Option.toList_some,Option.toList_none,Option.isSome_some,Option.isSome_none,Bool.and_true,Bool.true_and,Bool.and_false,Bool.false_and,Bool.or_false,Bool.false_or,Bool.or_true,Bool.true_or,Bool.not_false,Bool.not_true,and_true,true_and,and_false,false_and,Nat.reduceBEq,bne_iff_ne,bh,TT,Ic.t,Ic.ci,Nat.reduceEqDiff,reduceIte,Nat.reduceAdd,Nat.reduceLT,reduceCtorEq,Int.reduceToNat,hl,k2,c3,k5,c6,k8,c9,k11,c12,k14,c15,k17,c18,k20,c21,uh0q24,g1q24,g3q24,g5q24,htq24,hcq24,uh0q29,uh1q29,g1q29,g3q29,g5q29,g8q29,htq29,hcq29,k33,c34,CL,LTN]
                    exact hK
                  intro w30 e tkq31 τq31 hcq31
                  subst e
                  simp only at h
                  have hcq31 := bq (n := τ.next) hcq31 (by first | omega | (simp only [ag,aj]; omega))
                  try simp -implicitDefEqProofs only [TT,Ic.t,Ic.ci,Nat.reduceEqDiff,reduceIte,Nat.reduceAdd,Nat.reduceLT,reduceCtorEq,Int.reduceToNat,hl,k2,c3,k5,c6,k8,c9,k11,c12,k14,c15,k17,c18,k20,c21,uh0q24,g1q24,g3q24,g5q24,htq24,hcq24,CL,LTN] at hcq31
                  injection h with h; subst h
                  simp -implicitDefEqProofs only [kx,kw,ku,List.isEmpty_cons,g8,tD,pnK,gz,List.filter_cons,List.filter_nil,List.filterMap_cons,List.filterMap_nil,b9,eq,me,d6,Ins.dsts,Ins.looks,I.ops,ti,rg,List.all_cons,List.all_nil,List.any_cons,List.any_nil,List.contains_cons,List.contains_nil,List.append_nil,List.nil_append,List.cons_append,Option.toList_some,Option.toList_none,Option.isSome_some,Option.isSome_none,Bool.and_true,Bool.true_and,Bool.and_false,Bool.false_and,Bool.or_false,Bool.false_or,Bool.or_true,Bool.true_or,Bool.not_false,Bool.not_true,and_true,true_and,and_false,false_and,Nat.reduceBEq,bne_iff_ne,bh,TT,Ic.t,Ic.ci,Nat.reduceEqDiff,reduceIte,Nat.reduceAdd,Nat.reduceLT,reduceCtorEq,Int.reduceToNat,hl,k2,c3,k5,c6,k8,c9,k11,c12,k14,c15,k17,c18,k20,c21,uh0q24,g1q24,g3q24,g5q24,htq24,hcq24,hcq31,CL,LTN]
                  exact hK
                intro w25 e tkq26 τq26 hcq26
                subst e
                simp only at h
                have hcq26 := bq (n := τ.next) hcq26 (by first | omega | (simp only [ag,aj]; omega))
                try simp -implicitDefEqProofs only [TT,Ic.t,Ic.ci,Nat.reduceEqDiff,reduceIte,Nat.reduceAdd,Nat.reduceLT,reduceCtorEq,Int.reduceToNat,hl,k2,c3,k5,c6,k8,c9,k11,c12,k14,c15,k17,c18,k20,c21,CL,LTN] at hcq26
                injection h with h; subst h
                simp -implicitDefEqProofs only [kx,kw,ku,List.isEmpty_cons,g8,tD,pnK,gz,List.filter_cons,List.filter_nil,List.filterMap_cons,List.filterMap_nil,b9,eq,me,d6,Ins.dsts,Ins.looks,I.ops,ti,rg,List.all_cons,List.all_nil,List.any_cons,List.any_nil,List.contains_cons,List.contains_nil,List.append_nil,List.nil_append,List.cons_append,Option.toList_some,Option.toList_none,Option.isSome_some,Option.isSome_none,Bool.and_true,Bool.true_and,Bool.and_false,Bool.false_and,Bool.or_false,Bool.false_or,Bool.or_true,Bool.true_or,Bool.not_false,Bool.not_true,and_true,true_and,and_false,false_and,Nat.reduceBEq,bne_iff_ne,bh,TT,Ic.t,Ic.ci,Nat.reduceEqDiff,reduceIte,Nat.reduceAdd,Nat.reduceLT,reduceCtorEq,Int.reduceToNat,hl,k2,c3,k5,c6,k8,c9,k11,c12,k14,c15,k17,c18,k20,c21,hcq26,CL,LTN]
                exact hK
              rw [if_neg c21] at h
              have c21 := Bool.eq_false_iff.2 c21
              injection h with h; subst h
              simp -implicitDefEqProofs only [kx,kw,ku,List.isEmpty_cons,g8,tD,pnK,gz,List.filter_cons,List.filter_nil,List.filterMap_cons,List.filterMap_nil,b9,eq,me,d6,Ins.dsts,Ins.looks,I.ops,ti,rg,List.all_cons,List.all_nil,List.any_cons,List.any_nil,List.contains_cons,List.contains_nil,List.append_nil,List.nil_append,List.cons_append,Option.toList_some,Option.toList_none,Option.isSome_some,Option.isSome_none,Bool.and_true,Bool.true_and,Bool.and_false,Bool.false_and,Bool.or_false,Bool.false_or,Bool.or_true,Bool.true_or,Bool.not_false,Bool.not_true,and_true,true_and,and_false,false_and,Nat.reduceBEq,bne_iff_ne,bh,TT,Ic.t,Ic.ci,Nat.reduceEqDiff,reduceIte,Nat.reduceAdd,Nat.reduceLT,reduceCtorEq,Int.reduceToNat,hl,k2,c3,k5,c6,k8,c9,k11,c12,k14,c15,k17,c18,k20,c21,CL,LTN]
              exact hK
            rw [if_neg c18] at h
            have c18 := Bool.eq_false_iff.2 c18
            injection h with h; subst h
            simp -implicitDefEqProofs only [kx,kw,ku,List.isEmpty_cons,g8,tD,pnK,gz,List.filter_cons,List.filter_nil,List.filterMap_cons,List.filterMap_nil,b9,eq,me,d6,Ins.dsts,Ins.looks,I.ops,ti,rg,List.all_cons,List.all_nil,List.any_cons,List.any_nil,List.contains_cons,List.contains_nil,List.append_nil,List.nil_append,List.cons_append,Option.toList_some,Option.toList_none,Option.isSome_some,Option.isSome_none,Bool.and_true,Bool.true_and,Bool.and_false,Bool.false_and,Bool.or_false,Bool.false_or,Bool.or_true,Bool.true_or,Bool.not_false,Bool.not_true,and_true,true_and,and_false,false_and,Nat.reduceBEq,bne_iff_ne,bh,TT,Ic.t,Ic.ci,Nat.reduceEqDiff,reduceIte,Nat.reduceAdd,Nat.reduceLT,reduceCtorEq,Int.reduceToNat,hl,k2,c3,k5,c6,k8,c9,k11,c12,k14,c15,k17,c18,CL,LTN]
            exact hK
          rw [if_neg c15] at h
          have c15 := Bool.eq_false_iff.2 c15
          injection h with h; subst h
          simp -implicitDefEqProofs only [kx,kw,ku,List.isEmpty_cons,g8,tD,pnK,gz,List.filter_cons,List.filter_nil,List.filterMap_cons,List.filterMap_nil,b9,eq,me,d6,Ins.dsts,Ins.looks,I.ops,ti,rg,List.all_cons,List.all_nil,List.any_cons,List.any_nil,List.contains_cons,List.contains_nil,List.append_nil,List.nil_append,List.cons_append,Option.toList_some,Option.toList_none,Option.isSome_some,Option.isSome_none,Bool.and_true,Bool.true_and,Bool.and_false,Bool.false_and,Bool.or_false,Bool.false_or,Bool.or_true,Bool.true_or,Bool.not_false,Bool.not_true,and_true,true_and,and_false,false_and,Nat.reduceBEq,bne_iff_ne,bh,TT,Ic.t,Ic.ci,Nat.reduceEqDiff,reduceIte,Nat.reduceAdd,Nat.reduceLT,reduceCtorEq,Int.reduceToNat,hl,k2,c3,k5,c6,k8,c9,k11,c12,k14,c15,CL,LTN]
          exact hK
        rw [if_neg c12] at h
        have c12 := Bool.eq_false_iff.2 c12
        injection h with h; subst h
        simp -implicitDefEqProofs only [kx,kw,ku,List.isEmpty_cons,g8,tD,pnK,gz,List.filter_cons,List.filter_nil,List.filterMap_cons,List.filterMap_nil,b9,eq,me,d6,Ins.dsts,Ins.looks,I.ops,ti,rg,List.all_cons,List.all_nil,List.any_cons,List.any_nil,List.contains_cons,List.contains_nil,List.append_nil,List.nil_append,List.cons_append,Option.toList_some,Option.toList_none,Option.isSome_some,Option.isSome_none,Bool.and_true,Bool.true_and,Bool.and_false,Bool.false_and,Bool.or_false,Bool.false_or,Bool.or_true,Bool.true_or,Bool.not_false,Bool.not_true,and_true,true_and,and_false,false_and,Nat.reduceBEq,bne_iff_ne,bh,TT,Ic.t,Ic.ci,Nat.reduceEqDiff,reduceIte,Nat.reduceAdd,Nat.reduceLT,reduceCtorEq,Int.reduceToNat,hl,k2,c3,k5,c6,k8,c9,k11,c12,CL,LTN]
        exact hK
      rw [if_neg c9] at h
      have c9 := Bool.eq_false_iff.2 c9
      injection h with h; subst h
      simp -implicitDefEqProofs only [kx,kw,ku,List.isEmpty_cons,g8,tD,pnK,gz,List.filter_cons,List.filter_nil,List.filterMap_cons,List.filterMap_nil,b9,eq,me,d6,Ins.dsts,Ins.looks,I.ops,ti,rg,List.all_cons,List.all_nil,List.any_cons,List.any_nil,List.contains_cons,List.contains_nil,List.append_nil,List.nil_append,List.cons_append,Option.toList_some,Option.toList_none,Option.isSome_some,Option.isSome_none,Bool.and_true,Bool.true_and,Bool.and_false,Bool.false_and,Bool.or_false,Bool.false_or,Bool.or_true,Bool.true_or,Bool.not_false,Bool.not_true,and_true,true_and,and_false,false_and,Nat.reduceBEq,bne_iff_ne,bh,TT,Ic.t,Ic.ci,Nat.reduceEqDiff,reduceIte,Nat.reduceAdd,Nat.reduceLT,reduceCtorEq,Int.reduceToNat,hl,k2,c3,k5,c6,k8,c9,CL,LTN]
      exact hK
    rw [if_neg c6] at h
    have c6 := Bool.eq_false_iff.2 c6
    injection h with h; subst h
    simp -implicitDefEqProofs only [kx,kw,ku,List.isEmpty_cons,g8,tD,pnK,gz,List.filter_cons,List.filter_nil,List.filterMap_cons,List.filterMap_nil,b9,eq,me,d6,Ins.dsts,Ins.looks,I.ops,ti,rg,List.all_cons,List.all_nil,List.any_cons,List.any_nil,List.contains_cons,List.contains_nil,List.append_nil,List.nil_append,List.cons_append,Option.toList_some,Option.toList_none,Option.isSome_some,Option.isSome_none,Bool.and_true,Bool.true_and,Bool.and_false,Bool.false_and,Bool.or_false,Bool.false_or,Bool.or_true,Bool.true_or,Bool.not_false,Bool.not_true,and_true,true_and,and_false,false_and,Nat.reduceBEq,bne_iff_ne,bh,TT,Ic.t,Ic.ci,Nat.reduceEqDiff,reduceIte,Nat.reduceAdd,Nat.reduceLT,reduceCtorEq,Int.reduceToNat,hl,k2,c3,k5,c6,CL,LTN]
    exact hK
  rw [if_neg c3] at h
  have c3 := Bool.eq_false_iff.2 c3
  injection h with h; subst h
  simp -implicitDefEqProofs only [kx,kw,ku,List.isEmpty_cons,g8,tD,pnK,gz,List.filter_cons,List.filter_nil,List.filterMap_cons,List.filterMap_nil,b9,eq,me,d6,Ins.dsts,Ins.looks,I.ops,ti,rg,List.all_cons,List.all_nil,List.any_cons,List.any_nil,List.contains_cons,List.contains_nil,List.append_nil,List.nil_append,List.cons_append,Option.toList_some,Option.toList_none,Option.isSome_some,Option.isSome_none,Bool.and_true,Bool.true_and,Bool.and_false,Bool.false_and,Bool.or_false,Bool.false_or,Bool.or_true,Bool.true_or,Bool.not_false,Bool.not_true,and_true,true_and,and_false,false_and,Nat.reduceBEq,bne_iff_ne,bh,TT,Ic.t,Ic.ci,Nat.reduceEqDiff,reduceIte,Nat.reduceAdd,Nat.reduceLT,reduceCtorEq,Int.reduceToNat,hl,k2,c3,CL,LTN]
  exact hK
theorem zae7 (p1 : aa) (r : Bool) (h : mh p1 = some r) (lk : Bool) (d : Option Nat) (K : au) (fr : TF) (tk : TK) (τ : TH) (hl : τ.lock ≤ τ.next) : fv G lk nc [.agg [.str p1.ID,.sl (List.map ac.tv p1.Parties),.sl (List.map af.tv p1.Arcs),.sl (List.map (TV.int .i64) p1.Leaders),.sl (List.map TV.str p1.Locks),.int .i64 p1.Start,.int .i64 p1.Delta]] d K fr tk τ = K (fu fr d (.bool r)) tk τ :=
  aw (zae6 p1 r h τ  hl) (zae6 p1 r h (τ.locked τ.next)  (Nat.le_refl _) ) (by simp -implicitDefEqProofs only [TT,Ic.t,Ic.ci,Nat.reduceEqDiff,reduceIte,Nat.reduceAdd,Nat.reduceLT,reduceCtorEq,Int.reduceToNat,hl,CL,LTN])
noncomputable def rh (p1 : aa) (p2 : Int) : Option Int :=
 some (IntKind.i64.wrap (p1.Start + (IntKind.i64.wrap (p2 * p1.Delta))))
theorem ya (p1 : aa) (p2 : Int) (r : Int) (h : rh p1 p2 = some r) (τ : TH) (hl : τ.lock ≤ τ.next) : Ru G jz [.agg [.str p1.ID,.sl (List.map ac.tv p1.Parties),.sl (List.map af.tv p1.Arcs),.sl (List.map (TV.int .i64) p1.Leaders),.sl (List.map TV.str p1.Locks),.int .i64 p1.Start,.int .i64 p1.Delta],.int .i64 p2] τ (.int .i64 r) τ := by
  refine jk fun K hK => ?_
  rw [b7 zaqz (Nat.le_of_ble_eq_true rfl)]
  unfold rh at h
  injection h with h; subst h
  simp -implicitDefEqProofs only [zark,TT,Ic.t,Ic.ci,Nat.reduceEqDiff,reduceIte,Nat.reduceAdd,Nat.reduceLT,reduceCtorEq,Int.reduceToNat,hl,CL,LTN]
  exact hK
theorem zald (p1 : aa) (p2 : Int) (r : Int) (h : rh p1 p2 = some r) (lk : Bool) (d : Option Nat) (K : au) (fr : TF) (tk : TK) (τ : TH) (hl : τ.lock ≤ τ.next) : fv G lk jz [.agg [.str p1.ID,.sl (List.map ac.tv p1.Parties),.sl (List.map af.tv p1.Arcs),.sl (List.map (TV.int .i64) p1.Leaders),.sl (List.map TV.str p1.Locks),.int .i64 p1.Start,.int .i64 p1.Delta],.int .i64 p2] d K fr tk τ = K (fu fr d (.int .i64 r)) tk τ :=
  aw (ya p1 p2 r h τ  hl) (ya p1 p2 r h (τ.locked τ.next)  (Nat.le_refl _) ) (by simp -implicitDefEqProofs only [TT,Ic.t,Ic.ci,Nat.reduceEqDiff,reduceIte,Nat.reduceAdd,Nat.reduceLT,reduceCtorEq,Int.reduceToNat,hl,CL,LTN])
noncomputable def u6 (p1 : aa) (p2 : Int) : Option Int :=
 mh p1 >>= fun y1 =>
 if y1 = true then
  rh p1 p2 >>= fun y4 =>
  some y4
 else
 some (0 : Int)
theorem zaoy (p1 : aa) (p2 : Int) (r : Int) (h : u6 p1 p2 = some r) (τ : TH) (hl : τ.lock ≤ τ.next) : Ru G wa [.agg [.str p1.ID,.sl (List.map ac.tv p1.Parties),.sl (List.map af.tv p1.Arcs),.sl (List.map (TV.int .i64) p1.Leaders),.sl (List.map TV.str p1.Locks),.int .i64 p1.Start,.int .i64 p1.Delta],.int .i64 p2] τ (.int .i64 r) τ := by
  refine jk fun K hK => ?_
  rw [b7 g_when_of (Nat.le_of_ble_eq_true rfl)]
  unfold u6 at h
  obtain ⟨y1,hy1,h⟩ := ob h
  have k2 := zae7 p1 _ hy1
  try simp only [CL,MC,Int.reduceToNat] at k2
  by_cases c3 : y1 = true
  · rw [if_pos c3] at h
    obtain ⟨y4,hy4,h⟩ := ob h
    have k5 := zald p1 p2 _ hy4
    try simp only [CL,MC,Int.reduceToNat] at k5
    injection h with h; subst h
    simp -implicitDefEqProofs only [za0m,TT,Ic.t,Ic.ci,Nat.reduceEqDiff,reduceIte,Nat.reduceAdd,Nat.reduceLT,reduceCtorEq,Int.reduceToNat,hl,k2,c3,k5,CL,LTN]
    exact hK
  rw [if_neg c3] at h
  have c3 := Bool.eq_false_iff.2 c3
  injection h with h; subst h
  simp -implicitDefEqProofs only [za0m,TT,Ic.t,Ic.ci,Nat.reduceEqDiff,reduceIte,Nat.reduceAdd,Nat.reduceLT,reduceCtorEq,Int.reduceToNat,hl,k2,c3,CL,LTN]
  exact hK
theorem zaoz (p1 : aa) (p2 : Int) (r : Int) (h : u6 p1 p2 = some r) (lk : Bool) (d : Option Nat) (K : au) (fr : TF) (tk : TK) (τ : TH) (hl : τ.lock ≤ τ.next) : fv G lk wa [.agg [.str p1.ID,.sl (List.map ac.tv p1.Parties),.sl (List.map af.tv p1.Arcs),.sl (List.map (TV.int .i64) p1.Leaders),.sl (List.map TV.str p1.Locks),.int .i64 p1.Start,.int .i64 p1.Delta],.int .i64 p2] d K fr tk τ = K (fu fr d (.int .i64 r)) tk τ :=
  aw (zaoy p1 p2 r h τ  hl) (zaoy p1 p2 r h (τ.locked τ.next)  (Nat.le_refl _) ) (by simp -implicitDefEqProofs only [TT,Ic.t,Ic.ci,Nat.reduceEqDiff,reduceIte,Nat.reduceAdd,Nat.reduceLT,reduceCtorEq,Int.reduceToNat,hl,CL,LTN])
noncomputable def fx (p1 : aa) (p2 : Int) : Option Int :=
 u6 p1 (IntKind.i64.wrap ((IntKind.i64.wrap (((p1.Parties.length : Nat) : Int) + (if (1 : Int) < (if ((p1.Parties.length : Nat) : Int) < p2 then ((p1.Parties.length : Nat) : Int) else p2) then (if ((p1.Parties.length : Nat) : Int) < p2 then ((p1.Parties.length : Nat) : Int) else p2) else (1 : Int)))) - (1 : Int))) >>= fun y1 =>
 some y1
theorem yb (p1 : aa) (p2 : Int) (r : Int) (h : fx p1 p2 = some r) (τ : TH) (hl : τ.lock ≤ τ.next) : Ru G gf [.agg [.str p1.ID,.sl (List.map ac.tv p1.Parties),.sl (List.map af.tv p1.Arcs),.sl (List.map (TV.int .i64) p1.Leaders),.sl (List.map TV.str p1.Locks),.int .i64 p1.Start,.int .i64 p1.Delta],.int .i64 p2] τ (.int .i64 r) τ := by
  refine jk fun K hK => ?_
  rw [b7 zaq0 (Nat.le_of_ble_eq_true rfl)]
  unfold fx at h
  obtain ⟨y1,hy1,h⟩ := ob h
  have k2 := zaoz p1 (IntKind.i64.wrap ((IntKind.i64.wrap (((p1.Parties.length : Nat) : Int) + (if (1 : Int) < (if ((p1.Parties.length : Nat) : Int) < p2 then ((p1.Parties.length : Nat) : Int) else p2) then (if ((p1.Parties.length : Nat) : Int) < p2 then ((p1.Parties.length : Nat) : Int) else p2) else (1 : Int)))) - (1 : Int))) _ hy1
  try simp only [CL,MC,Int.reduceToNat] at k2
  injection h with h; subst h
  simp -implicitDefEqProofs only [zarl,TT,Ic.t,Ic.ci,Nat.reduceEqDiff,reduceIte,Nat.reduceAdd,Nat.reduceLT,reduceCtorEq,Int.reduceToNat,hl,k2,CL,LTN]
  exact hK
theorem ng (p1 : aa) (p2 : Int) (r : Int) (h : fx p1 p2 = some r) (lk : Bool) (d : Option Nat) (K : au) (fr : TF) (tk : TK) (τ : TH) (hl : τ.lock ≤ τ.next) : fv G lk gf [.agg [.str p1.ID,.sl (List.map ac.tv p1.Parties),.sl (List.map af.tv p1.Arcs),.sl (List.map (TV.int .i64) p1.Leaders),.sl (List.map TV.str p1.Locks),.int .i64 p1.Start,.int .i64 p1.Delta],.int .i64 p2] d K fr tk τ = K (fu fr d (.int .i64 r)) tk τ :=
  aw (yb p1 p2 r h τ  hl) (yb p1 p2 r h (τ.locked τ.next)  (Nat.le_refl _) ) (by simp -implicitDefEqProofs only [TT,Ic.t,Ic.ci,Nat.reduceEqDiff,reduceIte,Nat.reduceAdd,Nat.reduceLT,reduceCtorEq,Int.reduceToNat,hl,CL,LTN])
noncomputable def qv (p1 : ByteArray) : Option Bool :=
 if (1 : Int) ≤ ((p1.size : Nat) : Int) then
  some (decide (((p1.size : Nat) : Int) ≤ (16 : Int)))
 else
 some false
theorem zan2 (p1 : ByteArray) (r : Bool) (h : qv p1 = some r) (τ : TH) (hl : τ.lock ≤ τ.next) : Ru G ra [.str p1] τ (.bool r) τ := by
  refine jk fun K hK => ?_
  rw [b7 g_R04_Name (Nat.le_of_ble_eq_true rfl)]
  unfold qv at h
  by_cases c1 : (1 : Int) ≤ ((p1.size : Nat) : Int)
  · rw [if_pos c1] at h
    injection h with h; subst h
    simp -implicitDefEqProofs only [zaug,TT,Ic.t,Ic.ci,Nat.reduceEqDiff,reduceIte,Nat.reduceAdd,Nat.reduceLT,reduceCtorEq,Int.reduceToNat,hl,c1,CL,LTN]
    exact hK
  rw [if_neg c1] at h
  injection h with h; subst h
  simp -implicitDefEqProofs only [zaug,TT,Ic.t,Ic.ci,Nat.reduceEqDiff,reduceIte,Nat.reduceAdd,Nat.reduceLT,reduceCtorEq,Int.reduceToNat,hl,c1,CL,LTN]
  exact hK
theorem zaeg (p1 : ByteArray) (r : Bool) (h : qv p1 = some r) (lk : Bool) (d : Option Nat) (K : au) (fr : TF) (tk : TK) (τ : TH) (hl : τ.lock ≤ τ.next) : fv G lk ra [.str p1] d K fr tk τ = K (fu fr d (.bool r)) tk τ :=
  aw (zan2 p1 r h τ  hl) (zan2 p1 r h (τ.locked τ.next)  (Nat.le_refl _) ) (by simp -implicitDefEqProofs only [TT,Ic.t,Ic.ci,Nat.reduceEqDiff,reduceIte,Nat.reduceAdd,Nat.reduceLT,reduceCtorEq,Int.reduceToNat,hl,CL,LTN])
noncomputable def ce (v0 : aa) (v1 : Int) (v2 : Int) (v3 : Int) : Option (LS (Int) (LX (Unit) (Bool))) :=
 if v3 < v2 then
  ixL v0.Leaders v3 >>= fun y2 =>
  ixL v0.Leaders v2 >>= fun y4 =>
  if y2 = y4 then
   some (.dn (.rt false))
  else
  some (.nx (IntKind.i64.wrap (v3 + (1 : Int))))
 else
 some (.dn (.ex ()))
noncomputable def dq (v0 : aa) (v1 : Int) (v2 : Int) (v3 : Int) : Option (LX (Unit) (Bool)) := ko (fun st => ce v0 v1 v2 st) v3
theorem qf (v0 : aa) (v1 : Int) (v2 : Int) (v3 : Int) : dq v0 v1 v2 v3 = ce v0 v1 v2 v3 >>= LS.go (fun st => dq v0 v1 v2 st) := ei (fun st => ce v0 v1 v2 st) v3
def l0 (v0 : aa) (v1 : Int) (v2 : Int) (v3 : Int) (r : LX (Unit) (Bool)) : Prop := ∀ (τ : TH) (o0 : Nat) (hl : τ.lock ≤ τ.next) (ha0 : τ.at o0 = some ⟨aq,[.str v0.ID,.sl (List.map ac.tv v0.Parties),.sl (List.map af.tv v0.Arcs),.sl (List.map (TV.int .i64) v0.Leaders),.sl (List.map TV.str v0.Locks),.int .i64 v0.Start,.int .i64 v0.Delta]⟩) (hi0 : o0 < τ.next) (Q : TEx → au) (hQ0 : ∀ v : Unit,r = (.ex v) → ∀ (fr : TF) (tk2 : TK) (τ2 : TH),lkp fr 1 = .ptr o0 0 → lkp fr 3 = .int .i64 v1 → lkp fr 4 = .int .i64 v2 → tk2.take 0 = [] → τ2.cut τ.next = τ → Q (.exit 2) fr tk2 τ2) (hQ1 : ∀ v : Bool,r = (.rt v) → ∀ (tk2 : TK) (τ2 : TH),τ2.cut τ.next = τ → Q .ret [(2,.bool v)] tk2 τ2) ,tW G (.loop [1,3,4,5] ml) Q [(1,.ptr o0 0),(3,.int .i64 v1),(4,.int .i64 v2),(5,.int .i64 v3)] [] τ
theorem zakz (v0 : aa) (v1 : Int) (v2 : Int) (v3 : Int) (r : LX (Unit) (Bool)) (h : dq v0 v1 v2 v3 = some r) : l0 v0 v1 v2 v3 r := by
  refine cy (f := fun st => ce v0 v1 v2 st) (P := fun st r => ∀ (v3 : Int),v3 = st → l0 v0 v1 v2 v3 r) ?_ h v3 rfl
  clear h r v3
  intro st o h r ih v3 hst τ o0  hl ha0 hi0 Q hQ0 hQ1
  subst hst
  have h : ce v0 v1 v2 v3 = some o := h
  unfold ce at h
  refine jm fun LQ hn hr he => ?_
  by_cases c1 : v3 < v2
  · rw [if_pos c1] at h
    obtain ⟨y2,hy2,h⟩ := ob h
    have f3 := a9 hy2
    have f3a := (f3.2.2 (TV.int .i64)).1
    have f3b := (f3.2.2 (TV.int .i64)).2
    try simp only [CL,MC,Int.reduceToNat] at f3 f3a f3b
    obtain ⟨y4,hy4,h⟩ := ob h
    have f5 := a9 hy4
    have f5a := (f5.2.2 (TV.int .i64)).1
    have f5b := (f5.2.2 (TV.int .i64)).2
    try simp only [CL,MC,Int.reduceToNat] at f5 f5a f5b
    by_cases c6 : y2 = y4
    · rw [if_pos c6] at h
      injection h with h; subst h
      obtain rfl : _ = r := ih
      simp -implicitDefEqProofs only [ml,cp,TT,Ic.t,Ic.ci,Nat.reduceEqDiff,reduceIte,Nat.reduceAdd,Nat.reduceLT,reduceCtorEq,Int.reduceToNat,hl,ha0,hi0,he,hr,c1,f3.1,f3.2.1,f3a,f3b,f5.1,f5.2.1,f5a,f5b,eq_true c6,CL,LTN]
      exact hQ1 false rfl  _ _  (by first | exact bp (Nat.le_refl _) | (simp -implicitDefEqProofs only [TT,Ic.t,Ic.ci,Nat.reduceEqDiff,reduceIte,Nat.reduceAdd,Nat.reduceLT,reduceCtorEq,Int.reduceToNat,hl,ha0,hi0,c1,f3.1,f3.2.1,f3a,f3b,f5.1,f5.2.1,f5a,f5b,eq_true c6,CL,LTN]))
    rw [if_neg c6] at h
    injection h with h; subst h
    have ih := ih (IntKind.i64.wrap (v3 + (1 : Int))) rfl
    unfold l0 at ih
    simp -implicitDefEqProofs only [ml,cp,TT,Ic.t,Ic.ci,Nat.reduceEqDiff,reduceIte,Nat.reduceAdd,Nat.reduceLT,reduceCtorEq,Int.reduceToNat,hl,ha0,hi0,c1,f3.1,f3.2.1,f3a,f3b,f5.1,f5.2.1,f5a,f5b,c6,CL,LTN]
    rw [hn]
    simp -implicitDefEqProofs only [TT,Ic.t,Ic.ci,Nat.reduceEqDiff,reduceIte,Nat.reduceAdd,Nat.reduceLT,reduceCtorEq,Int.reduceToNat,hl,ha0,hi0,c1,f3.1,f3.2.1,f3a,f3b,f5.1,f5.2.1,f5a,f5b,c6,CL,LTN]
    exact ih  τ o0   (by first | assumption | (simp only [ag,ah]; assumption)) (by simp -implicitDefEqProofs only [TT,Ic.t,Ic.ci,Nat.reduceEqDiff,reduceIte,Nat.reduceAdd,Nat.reduceLT,reduceCtorEq,Int.reduceToNat,hl,ha0,hi0,c1,f3.1,f3.2.1,f3a,f3b,f5.1,f5.2.1,f5a,f5b,c6,CL,LTN]) (by first | assumption | (simp only [ag,ah]; assumption)) Q hQ0 hQ1
  rw [if_neg c1] at h
  injection h with h; subst h
  obtain rfl : _ = r := ih
  simp -implicitDefEqProofs only [ml,cp,TT,Ic.t,Ic.ci,Nat.reduceEqDiff,reduceIte,Nat.reduceAdd,Nat.reduceLT,reduceCtorEq,Int.reduceToNat,hl,ha0,hi0,he,hr,c1,CL,LTN]
  exact hQ0 () rfl  _ _ _  (by first | rfl | (simp -implicitDefEqProofs only [TT,Ic.t,Ic.ci,Nat.reduceEqDiff,reduceIte,Nat.reduceAdd,Nat.reduceLT,reduceCtorEq,Int.reduceToNat,hl,ha0,hi0,c1,CL,LTN])) (by first | rfl | (simp -implicitDefEqProofs only [TT,Ic.t,Ic.ci,Nat.reduceEqDiff,reduceIte,Nat.reduceAdd,Nat.reduceLT,reduceCtorEq,Int.reduceToNat,hl,ha0,hi0,c1,CL,LTN])) (by first | rfl | (simp -implicitDefEqProofs only [TT,Ic.t,Ic.ci,Nat.reduceEqDiff,reduceIte,Nat.reduceAdd,Nat.reduceLT,reduceCtorEq,Int.reduceToNat,hl,ha0,hi0,c1,CL,LTN])) (by first | rfl | (simp -implicitDefEqProofs only [TT,Ic.t,Ic.ci,Nat.reduceEqDiff,reduceIte,Nat.reduceAdd,Nat.reduceLT,reduceCtorEq,Int.reduceToNat,hl,ha0,hi0,c1,CL,LTN])) (by first | exact bp (Nat.le_refl _) | (simp -implicitDefEqProofs only [TT,Ic.t,Ic.ci,Nat.reduceEqDiff,reduceIte,Nat.reduceAdd,Nat.reduceLT,reduceCtorEq,Int.reduceToNat,hl,ha0,hi0,c1,CL,LTN]))
noncomputable def cg (v0 : aa) (v1 : Int) (v2 : Int) : Option (LS (Int) (LX (Unit) (Bool))) :=
 if v2 < v1 then
  ixL v0.Leaders v2 >>= fun y2 =>
  if y2 < (0 : Int) then
   some (.dn (.rt false))
  else
  if ((v0.Parties.length : Nat) : Int) ≤ y2 then
   some (.dn (.rt false))
  else
  ixL v0.Locks v2 >>= fun y6 =>
  if ((y6.size : Nat) : Int) = (32 : Int) then
   dq v0 v1 v2 (0 : Int) >>= fun y9 =>
   match y9 with
   | .ex w10 =>
    some (.nx (IntKind.i64.wrap (v2 + (1 : Int))))
   | .rt w12 =>
    some (.dn (.rt w12))
  else
  some (.dn (.rt false))
 else
 some (.dn (.ex ()))
noncomputable def dt (v0 : aa) (v1 : Int) (v2 : Int) : Option (LX (Unit) (Bool)) := ko (fun st => cg v0 v1 st) v2
theorem qg (v0 : aa) (v1 : Int) (v2 : Int) : dt v0 v1 v2 = cg v0 v1 v2 >>= LS.go (fun st => dt v0 v1 st) := ei (fun st => cg v0 v1 st) v2
def l4 (v0 : aa) (v1 : Int) (v2 : Int) (r : LX (Unit) (Bool)) : Prop := ∀ (τ : TH) (o0 : Nat) (hl : τ.lock ≤ τ.next) (ha0 : τ.at o0 = some ⟨aq,[.str v0.ID,.sl (List.map ac.tv v0.Parties),.sl (List.map af.tv v0.Arcs),.sl (List.map (TV.int .i64) v0.Leaders),.sl (List.map TV.str v0.Locks),.int .i64 v0.Start,.int .i64 v0.Delta]⟩) (hi0 : o0 < τ.next) (Q : TEx → au) (hQ0 : ∀ v : Unit,r = (.ex v) → ∀ (fr : TF) (tk2 : TK) (τ2 : TH),tk2.take 0 = [] → τ2.cut τ.next = τ → Q (.exit 0) fr tk2 τ2) (hQ1 : ∀ v : Bool,r = (.rt v) → ∀ (tk2 : TK) (τ2 : TH),τ2.cut τ.next = τ → Q .ret [(2,.bool v)] tk2 τ2) ,tW G (.loop [1,3,4] f0) Q [(1,.ptr o0 0),(3,.int .i64 v1),(4,.int .i64 v2)] [] τ
theorem zak0 (v0 : aa) (v1 : Int) (v2 : Int) (r : LX (Unit) (Bool)) (h : dt v0 v1 v2 = some r) : l4 v0 v1 v2 r := by
  refine cy (f := fun st => cg v0 v1 st) (P := fun st r => ∀ (v2 : Int),v2 = st → l4 v0 v1 v2 r) ?_ h v2 rfl
  clear h r v2
  intro st o h r ih v2 hst τ o0  hl ha0 hi0 Q hQ0 hQ1
  subst hst
  have h : cg v0 v1 v2 = some o := h
  unfold cg at h
  refine jm fun LQ hn hr he => ?_
  by_cases c1 : v2 < v1
  · rw [if_pos c1] at h
    obtain ⟨y2,hy2,h⟩ := ob h
    have f3 := a9 hy2
    have f3a := (f3.2.2 (TV.int .i64)).1
    have f3b := (f3.2.2 (TV.int .i64)).2
    try simp only [CL,MC,Int.reduceToNat] at f3 f3a f3b
    by_cases c4 : y2 < (0 : Int)
    · rw [if_pos c4] at h
      injection h with h; subst h
      obtain rfl : _ = r := ih
      simp -implicitDefEqProofs only [f0,cp,TT,Ic.t,Ic.ci,Nat.reduceEqDiff,reduceIte,Nat.reduceAdd,Nat.reduceLT,reduceCtorEq,Int.reduceToNat,hl,ha0,hi0,he,hr,c1,f3.1,f3.2.1,f3a,f3b,c4,CL,LTN]
      exact hQ1 false rfl  _ _  (by first | exact bp (Nat.le_refl _) | (simp -implicitDefEqProofs only [TT,Ic.t,Ic.ci,Nat.reduceEqDiff,reduceIte,Nat.reduceAdd,Nat.reduceLT,reduceCtorEq,Int.reduceToNat,hl,ha0,hi0,c1,f3.1,f3.2.1,f3a,f3b,c4,CL,LTN]))
    rw [if_neg c4] at h
    by_cases c5 : ((v0.Parties.length : Nat) : Int) ≤ y2
    · rw [if_pos c5] at h
      injection h with h; subst h
      obtain rfl : _ = r := ih
      simp -implicitDefEqProofs only [f0,cp,TT,Ic.t,Ic.ci,Nat.reduceEqDiff,reduceIte,Nat.reduceAdd,Nat.reduceLT,reduceCtorEq,Int.reduceToNat,hl,ha0,hi0,he,hr,c1,f3.1,f3.2.1,f3a,f3b,c4,c5,CL,LTN]
      exact hQ1 false rfl  _ _  (by first | exact bp (Nat.le_refl _) | (simp -implicitDefEqProofs only [TT,Ic.t,Ic.ci,Nat.reduceEqDiff,reduceIte,Nat.reduceAdd,Nat.reduceLT,reduceCtorEq,Int.reduceToNat,hl,ha0,hi0,c1,f3.1,f3.2.1,f3a,f3b,c4,c5,CL,LTN]))
    rw [if_neg c5] at h
    obtain ⟨y6,hy6,h⟩ := ob h
    have f7 := a9 hy6
    have f7a := (f7.2.2 TV.str).1
    have f7b := (f7.2.2 TV.str).2
    try simp only [CL,MC,Int.reduceToNat] at f7 f7a f7b
    by_cases c8 : ((y6.size : Nat) : Int) = (32 : Int)
    · rw [if_pos c8] at h
      obtain ⟨y9,hy9,h⟩ := ob h
      simp -implicitDefEqProofs only [f0,cp,TT,Ic.t,Ic.ci,Nat.reduceEqDiff,reduceIte,Nat.reduceAdd,Nat.reduceLT,reduceCtorEq,Int.reduceToNat,hl,ha0,hi0,c1,f3.1,f3.2.1,f3a,f3b,c4,c5,f7.1,f7.2.1,f7a,f7b,eq_true c8,CL,LTN]
      have Sy9 := zakz v0 v1 v2 (0 : Int) y9 hy9
      unfold l0 at Sy9
      refine Sy9 _ o0 (by first | assumption | omega | (simp only [ag,aj,ah,av]; omega)) (by simp -implicitDefEqProofs only [TT,Ic.t,Ic.ci,Nat.reduceEqDiff,reduceIte,Nat.reduceAdd,Nat.reduceLT,reduceCtorEq,Int.reduceToNat,hl,ha0,hi0,c1,f3.1,f3.2.1,f3a,f3b,c4,c5,f7.1,f7.2.1,f7a,f7b,eq_true c8,CL,LTN]) (by first | assumption | omega | (simp only [ag,aj,ah,av]; omega)) _ ?_ ?_
      · intro w10 e frq11 tkq11 τq11 g1q11 g3q11 g4q11 htq11 hcq11
        subst e
        simp only at h
        have hcq11 := bq (n := τ.next) hcq11 (by first | omega | (simp only [ag,aj]; omega))
        try simp only [List.take_succ_cons,List.take_zero,List.take_nil,CL] at htq11
        try simp -implicitDefEqProofs only [TT,Ic.t,Ic.ci,Nat.reduceEqDiff,reduceIte,Nat.reduceAdd,Nat.reduceLT,reduceCtorEq,Int.reduceToNat,hl,ha0,hi0,c1,f3.1,f3.2.1,f3a,f3b,c4,c5,f7.1,f7.2.1,f7a,f7b,eq_true c8,CL,LTN] at hcq11
        injection h with h; subst h
        have ih := ih (IntKind.i64.wrap (v2 + (1 : Int))) rfl
        unfold l4 at ih
        simp -implicitDefEqProofs only [f0,cp,TT,Ic.t,Ic.ci,Nat.reduceEqDiff,reduceIte,Nat.reduceAdd,Nat.reduceLT,reduceCtorEq,Int.reduceToNat,hl,ha0,hi0,c1,f3.1,f3.2.1,f3a,f3b,c4,c5,f7.1,f7.2.1,f7a,f7b,eq_true c8,g1q11,g3q11,g4q11,htq11,hcq11,CL,LTN]
        rw [hn]
        simp -implicitDefEqProofs only [TT,Ic.t,Ic.ci,Nat.reduceEqDiff,reduceIte,Nat.reduceAdd,Nat.reduceLT,reduceCtorEq,Int.reduceToNat,hl,ha0,hi0,c1,f3.1,f3.2.1,f3a,f3b,c4,c5,f7.1,f7.2.1,f7a,f7b,eq_true c8,g1q11,g3q11,g4q11,htq11,hcq11,CL,LTN]
        exact ih  τ o0   (by first | assumption | (simp only [ag,ah]; assumption)) (by simp -implicitDefEqProofs only [TT,Ic.t,Ic.ci,Nat.reduceEqDiff,reduceIte,Nat.reduceAdd,Nat.reduceLT,reduceCtorEq,Int.reduceToNat,hl,ha0,hi0,c1,f3.1,f3.2.1,f3a,f3b,c4,c5,f7.1,f7.2.1,f7a,f7b,eq_true c8,g1q11,g3q11,g4q11,htq11,hcq11,CL,LTN]) (by first | assumption | (simp only [ag,ah]; assumption)) Q hQ0 hQ1
      intro w12 e tkq13 τq13 hcq13
      subst e
      simp only at h
      have hcq13 := bq (n := τ.next) hcq13 (by first | omega | (simp only [ag,aj]; omega))
      try simp -implicitDefEqProofs only [TT,Ic.t,Ic.ci,Nat.reduceEqDiff,reduceIte,Nat.reduceAdd,Nat.reduceLT,reduceCtorEq,Int.reduceToNat,hl,ha0,hi0,c1,f3.1,f3.2.1,f3a,f3b,c4,c5,f7.1,f7.2.1,f7a,f7b,eq_true c8,CL,LTN] at hcq13
      injection h with h; subst h
      obtain rfl : _ = r := ih
      simp -implicitDefEqProofs only [f0,cp,TT,Ic.t,Ic.ci,Nat.reduceEqDiff,reduceIte,Nat.reduceAdd,Nat.reduceLT,reduceCtorEq,Int.reduceToNat,hl,ha0,hi0,he,hr,c1,f3.1,f3.2.1,f3a,f3b,c4,c5,f7.1,f7.2.1,f7a,f7b,eq_true c8,hcq13,CL,LTN]
      exact hQ1 w12 rfl  _ _  (by first | exact bp (Nat.le_refl _) | (simp -implicitDefEqProofs only [TT,Ic.t,Ic.ci,Nat.reduceEqDiff,reduceIte,Nat.reduceAdd,Nat.reduceLT,reduceCtorEq,Int.reduceToNat,hl,ha0,hi0,c1,f3.1,f3.2.1,f3a,f3b,c4,c5,f7.1,f7.2.1,f7a,f7b,eq_true c8,hcq13,CL,LTN]))
    rw [if_neg c8] at h
    injection h with h; subst h
    obtain rfl : _ = r := ih
    simp -implicitDefEqProofs only [f0,cp,TT,Ic.t,Ic.ci,Nat.reduceEqDiff,reduceIte,Nat.reduceAdd,Nat.reduceLT,reduceCtorEq,Int.reduceToNat,hl,ha0,hi0,he,hr,c1,f3.1,f3.2.1,f3a,f3b,c4,c5,f7.1,f7.2.1,f7a,f7b,c8,CL,LTN]
    exact hQ1 false rfl  _ _  (by first | exact bp (Nat.le_refl _) | (simp -implicitDefEqProofs only [TT,Ic.t,Ic.ci,Nat.reduceEqDiff,reduceIte,Nat.reduceAdd,Nat.reduceLT,reduceCtorEq,Int.reduceToNat,hl,ha0,hi0,c1,f3.1,f3.2.1,f3a,f3b,c4,c5,f7.1,f7.2.1,f7a,f7b,c8,CL,LTN]))
  rw [if_neg c1] at h
  injection h with h; subst h
  obtain rfl : _ = r := ih
  simp -implicitDefEqProofs only [f0,cp,TT,Ic.t,Ic.ci,Nat.reduceEqDiff,reduceIte,Nat.reduceAdd,Nat.reduceLT,reduceCtorEq,Int.reduceToNat,hl,ha0,hi0,he,hr,c1,CL,LTN]
  exact hQ0 () rfl  _ _ _   (by first | rfl | (simp -implicitDefEqProofs only [TT,Ic.t,Ic.ci,Nat.reduceEqDiff,reduceIte,Nat.reduceAdd,Nat.reduceLT,reduceCtorEq,Int.reduceToNat,hl,ha0,hi0,c1,CL,LTN])) (by first | exact bp (Nat.le_refl _) | (simp -implicitDefEqProofs only [TT,Ic.t,Ic.ci,Nat.reduceEqDiff,reduceIte,Nat.reduceAdd,Nat.reduceLT,reduceCtorEq,Int.reduceToNat,hl,ha0,hi0,c1,CL,LTN]))
noncomputable def kc (p1 : aa) : Option Bool :=
 if ((p1.Leaders.length : Nat) : Int) < (1 : Int) then
  some false
 else
 if (3 : Int) < ((p1.Leaders.length : Nat) : Int) then
  some false
 else
 if ((p1.Locks.length : Nat) : Int) = ((p1.Leaders.length : Nat) : Int) then
  dt p1 ((p1.Leaders.length : Nat) : Int) (0 : Int) >>= fun y4 =>
  match y4 with
  | .ex w5 =>
   some true
  | .rt w7 =>
   some w7
 else
 some false
theorem zaef (p1 : aa) (r : Bool) (h : kc p1 = some r) (τ : TH) (hl : τ.lock ≤ τ.next) : Ru G nw [.agg [.str p1.ID,.sl (List.map ac.tv p1.Parties),.sl (List.map af.tv p1.Arcs),.sl (List.map (TV.int .i64) p1.Leaders),.sl (List.map TV.str p1.Locks),.int .i64 p1.Start,.int .i64 p1.Delta]] τ (.bool r) τ := by
  refine jk fun K hK => ?_
  rw [b7 zavh (Nat.le_of_ble_eq_true rfl)]
  unfold kc at h
  by_cases c1 : ((p1.Leaders.length : Nat) : Int) < (1 : Int)
  · rw [if_pos c1] at h
    injection h with h; subst h
    simp -implicitDefEqProofs only [cp,TT,Ic.t,Ic.ci,Nat.reduceEqDiff,reduceIte,Nat.reduceAdd,Nat.reduceLT,reduceCtorEq,Int.reduceToNat,hl,c1,CL,LTN]
    exact hK
  rw [if_neg c1] at h
  by_cases c2 : (3 : Int) < ((p1.Leaders.length : Nat) : Int)
  · rw [if_pos c2] at h
    injection h with h; subst h
    simp -implicitDefEqProofs only [cp,TT,Ic.t,Ic.ci,Nat.reduceEqDiff,reduceIte,Nat.reduceAdd,Nat.reduceLT,reduceCtorEq,Int.reduceToNat,hl,c1,c2,CL,LTN]
    exact hK
  rw [if_neg c2] at h
  by_cases c3 : ((p1.Locks.length : Nat) : Int) = ((p1.Leaders.length : Nat) : Int)
  · rw [if_pos c3] at h
    obtain ⟨y4,hy4,h⟩ := ob h
    simp -implicitDefEqProofs only [cp,TT,Ic.t,Ic.ci,Nat.reduceEqDiff,reduceIte,Nat.reduceAdd,Nat.reduceLT,reduceCtorEq,Int.reduceToNat,hl,c1,c2,eq_true c3,CL,LTN]
    have Sy4 := zak0 p1 ((p1.Leaders.length : Nat) : Int) (0 : Int) y4 hy4
    unfold l4 at Sy4
    refine Sy4 _ τ.next (by first | assumption | omega | (simp only [ag,aj,ah,av]; omega)) (by simp -implicitDefEqProofs only [TT,Ic.t,Ic.ci,Nat.reduceEqDiff,reduceIte,Nat.reduceAdd,Nat.reduceLT,reduceCtorEq,Int.reduceToNat,hl,c1,c2,eq_true c3,CL,LTN]) (by first | assumption | omega | (simp only [ag,aj,ah,av]; omega)) _ ?_ ?_
    · intro w5 e frq6 tkq6 τq6 htq6 hcq6
      subst e
      simp only at h
      have hcq6 := bq (n := τ.next + 1) hcq6 (by first | omega | (simp only [ag,aj]; omega))
      try simp only [List.take_succ_cons,List.take_zero,List.take_nil,CL] at htq6
      try simp -implicitDefEqProofs only [TT,Ic.t,Ic.ci,Nat.reduceEqDiff,reduceIte,Nat.reduceAdd,Nat.reduceLT,reduceCtorEq,Int.reduceToNat,hl,c1,c2,eq_true c3,CL,LTN] at hcq6
      injection h with h; subst h
      simp -implicitDefEqProofs only [cp,TT,Ic.t,Ic.ci,Nat.reduceEqDiff,reduceIte,Nat.reduceAdd,Nat.reduceLT,reduceCtorEq,Int.reduceToNat,hl,c1,c2,eq_true c3,htq6,hcq6,CL,LTN]
      exact hK
    intro w7 e tkq8 τq8 hcq8
    subst e
    simp only at h
    have hcq8 := bq (n := τ.next) hcq8 (by first | omega | (simp only [ag,aj]; omega))
    try simp -implicitDefEqProofs only [TT,Ic.t,Ic.ci,Nat.reduceEqDiff,reduceIte,Nat.reduceAdd,Nat.reduceLT,reduceCtorEq,Int.reduceToNat,hl,c1,c2,eq_true c3,CL,LTN] at hcq8
    injection h with h; subst h
    simp -implicitDefEqProofs only [cp,TT,Ic.t,Ic.ci,Nat.reduceEqDiff,reduceIte,Nat.reduceAdd,Nat.reduceLT,reduceCtorEq,Int.reduceToNat,hl,c1,c2,eq_true c3,hcq8,CL,LTN]
    exact hK
  rw [if_neg c3] at h
  injection h with h; subst h
  simp -implicitDefEqProofs only [cp,TT,Ic.t,Ic.ci,Nat.reduceEqDiff,reduceIte,Nat.reduceAdd,Nat.reduceLT,reduceCtorEq,Int.reduceToNat,hl,c1,c2,c3,CL,LTN]
  exact hK
theorem zarp (p1 : aa) (r : Bool) (h : kc p1 = some r) (lk : Bool) (d : Option Nat) (K : au) (fr : TF) (tk : TK) (τ : TH) (hl : τ.lock ≤ τ.next) : fv G lk nw [.agg [.str p1.ID,.sl (List.map ac.tv p1.Parties),.sl (List.map af.tv p1.Arcs),.sl (List.map (TV.int .i64) p1.Leaders),.sl (List.map TV.str p1.Locks),.int .i64 p1.Start,.int .i64 p1.Delta]] d K fr tk τ = K (fu fr d (.bool r)) tk τ :=
  aw (zaef p1 r h τ  hl) (zaef p1 r h (τ.locked τ.next)  (Nat.le_refl _) ) (by simp -implicitDefEqProofs only [TT,Ic.t,Ic.ci,Nat.reduceEqDiff,reduceIte,Nat.reduceAdd,Nat.reduceLT,reduceCtorEq,Int.reduceToNat,hl,CL,LTN])
noncomputable def cb (v0 : aa) (v1 : Int) (v2 : Int) (v3 : ac) (v4 : Int) : Option (LS (Int) (LX (Unit) (Bool))) :=
 if v4 < ((v3.Keys.length : Nat) : Int) then
  ixL v3.Keys v4 >>= fun y2 =>
  if ((y2.size : Nat) : Int) = (16 : Int) then
   some (.nx (IntKind.i64.wrap (v4 + (1 : Int))))
  else
  some (.dn (.rt false))
 else
 some (.dn (.ex ()))
noncomputable def dm (v0 : aa) (v1 : Int) (v2 : Int) (v3 : ac) (v4 : Int) : Option (LX (Unit) (Bool)) := ko (fun st => cb v0 v1 v2 v3 st) v4
theorem qd (v0 : aa) (v1 : Int) (v2 : Int) (v3 : ac) (v4 : Int) : dm v0 v1 v2 v3 v4 = cb v0 v1 v2 v3 v4 >>= LS.go (fun st => dm v0 v1 v2 v3 st) := ei (fun st => cb v0 v1 v2 v3 st) v4
def ly (v0 : aa) (v1 : Int) (v2 : Int) (v3 : ac) (v4 : Int) (r : LX (Unit) (Bool)) : Prop := ∀ (τ : TH) (o0 : Nat) (o1 : Nat) (hl : τ.lock ≤ τ.next) (ha0 : τ.at o0 = some ⟨aq,[.str v0.ID,.sl (List.map ac.tv v0.Parties),.sl (List.map af.tv v0.Arcs),.sl (List.map (TV.int .i64) v0.Leaders),.sl (List.map TV.str v0.Locks),.int .i64 v0.Start,.int .i64 v0.Delta]⟩) (hi0 : o0 < τ.next) (ha1 : τ.at o1 = some ⟨fe,[.str v3.Account,.sl (List.map TV.str v3.Keys)]⟩) (hi1 : o1 < τ.next) (Q : TEx → au) (hQ0 : ∀ v : Unit,r = (.ex v) → ∀ (fr : TF) (tk2 : TK) (τ2 : TH),lkp fr 1 = .ptr o0 0 → lkp fr 3 = .int .i64 v1 → lkp fr 4 = .int .i64 v2 → lkp fr 5 = .ptr o1 0 → tk2.take 0 = [] → τ2.cut τ.next = τ → Q (.exit 2) fr tk2 τ2) (hQ1 : ∀ v : Bool,r = (.rt v) → ∀ (tk2 : TK) (τ2 : TH),τ2.cut τ.next = τ → Q .ret [(2,.bool v)] tk2 τ2) ,tW G (.loop [1,3,4,5,6] mj) Q [(1,.ptr o0 0),(3,.int .i64 v1),(4,.int .i64 v2),(5,.ptr o1 0),(6,.int .i64 v4)] [] τ
theorem zakx (v0 : aa) (v1 : Int) (v2 : Int) (v3 : ac) (v4 : Int) (r : LX (Unit) (Bool)) (h : dm v0 v1 v2 v3 v4 = some r) : ly v0 v1 v2 v3 v4 r := by
  refine cy (f := fun st => cb v0 v1 v2 v3 st) (P := fun st r => ∀ (v4 : Int),v4 = st → ly v0 v1 v2 v3 v4 r) ?_ h v4 rfl
  clear h r v4
  intro st o h r ih v4 hst τ o0 o1  hl ha0 hi0 ha1 hi1 Q hQ0 hQ1
  subst hst
  have h : cb v0 v1 v2 v3 v4 = some o := h
  unfold cb at h
  refine jm fun LQ hn hr he => ?_
  by_cases c1 : v4 < ((v3.Keys.length : Nat) : Int)
  · rw [if_pos c1] at h
    obtain ⟨y2,hy2,h⟩ := ob h
    have f3 := a9 hy2
    have f3a := (f3.2.2 TV.str).1
    have f3b := (f3.2.2 TV.str).2
    try simp only [CL,MC,Int.reduceToNat] at f3 f3a f3b
    by_cases c4 : ((y2.size : Nat) : Int) = (16 : Int)
    · rw [if_pos c4] at h
      injection h with h; subst h
      have ih := ih (IntKind.i64.wrap (v4 + (1 : Int))) rfl
      unfold ly at ih
      simp -implicitDefEqProofs only [mj,bn,TT,Ic.t,Ic.ci,Nat.reduceEqDiff,reduceIte,Nat.reduceAdd,Nat.reduceLT,reduceCtorEq,Int.reduceToNat,hl,ha0,hi0,ha1,hi1,c1,f3.1,f3.2.1,f3a,f3b,eq_true c4,CL,LTN]
      rw [hn]
      simp -implicitDefEqProofs only [TT,Ic.t,Ic.ci,Nat.reduceEqDiff,reduceIte,Nat.reduceAdd,Nat.reduceLT,reduceCtorEq,Int.reduceToNat,hl,ha0,hi0,ha1,hi1,c1,f3.1,f3.2.1,f3a,f3b,eq_true c4,CL,LTN]
      exact ih  τ o0 o1   (by first | assumption | (simp only [ag,ah]; assumption)) (by simp -implicitDefEqProofs only [TT,Ic.t,Ic.ci,Nat.reduceEqDiff,reduceIte,Nat.reduceAdd,Nat.reduceLT,reduceCtorEq,Int.reduceToNat,hl,ha0,hi0,ha1,hi1,c1,f3.1,f3.2.1,f3a,f3b,eq_true c4,CL,LTN]) (by first | assumption | (simp only [ag,ah]; assumption)) (by simp -implicitDefEqProofs only [TT,Ic.t,Ic.ci,Nat.reduceEqDiff,reduceIte,Nat.reduceAdd,Nat.reduceLT,reduceCtorEq,Int.reduceToNat,hl,ha0,hi0,ha1,hi1,c1,f3.1,f3.2.1,f3a,f3b,eq_true c4,CL,LTN]) (by first | assumption | (simp only [ag,ah]; assumption)) Q hQ0 hQ1
    rw [if_neg c4] at h
    injection h with h; subst h
    obtain rfl : _ = r := ih
    simp -implicitDefEqProofs only [mj,bn,TT,Ic.t,Ic.ci,Nat.reduceEqDiff,reduceIte,Nat.reduceAdd,Nat.reduceLT,reduceCtorEq,Int.reduceToNat,hl,ha0,hi0,ha1,hi1,he,hr,c1,f3.1,f3.2.1,f3a,f3b,c4,CL,LTN]
    exact hQ1 false rfl  _ _  (by first | exact bp (Nat.le_refl _) | (simp -implicitDefEqProofs only [TT,Ic.t,Ic.ci,Nat.reduceEqDiff,reduceIte,Nat.reduceAdd,Nat.reduceLT,reduceCtorEq,Int.reduceToNat,hl,ha0,hi0,ha1,hi1,c1,f3.1,f3.2.1,f3a,f3b,c4,CL,LTN]))
  rw [if_neg c1] at h
  injection h with h; subst h
  obtain rfl : _ = r := ih
  simp -implicitDefEqProofs only [mj,bn,TT,Ic.t,Ic.ci,Nat.reduceEqDiff,reduceIte,Nat.reduceAdd,Nat.reduceLT,reduceCtorEq,Int.reduceToNat,hl,ha0,hi0,ha1,hi1,he,hr,c1,CL,LTN]
  exact hQ0 () rfl  _ _ _  (by first | rfl | (simp -implicitDefEqProofs only [TT,Ic.t,Ic.ci,Nat.reduceEqDiff,reduceIte,Nat.reduceAdd,Nat.reduceLT,reduceCtorEq,Int.reduceToNat,hl,ha0,hi0,ha1,hi1,c1,CL,LTN])) (by first | rfl | (simp -implicitDefEqProofs only [TT,Ic.t,Ic.ci,Nat.reduceEqDiff,reduceIte,Nat.reduceAdd,Nat.reduceLT,reduceCtorEq,Int.reduceToNat,hl,ha0,hi0,ha1,hi1,c1,CL,LTN])) (by first | rfl | (simp -implicitDefEqProofs only [TT,Ic.t,Ic.ci,Nat.reduceEqDiff,reduceIte,Nat.reduceAdd,Nat.reduceLT,reduceCtorEq,Int.reduceToNat,hl,ha0,hi0,ha1,hi1,c1,CL,LTN])) (by first | rfl | (simp -implicitDefEqProofs only [TT,Ic.t,Ic.ci,Nat.reduceEqDiff,reduceIte,Nat.reduceAdd,Nat.reduceLT,reduceCtorEq,Int.reduceToNat,hl,ha0,hi0,ha1,hi1,c1,CL,LTN])) (by first | rfl | (simp -implicitDefEqProofs only [TT,Ic.t,Ic.ci,Nat.reduceEqDiff,reduceIte,Nat.reduceAdd,Nat.reduceLT,reduceCtorEq,Int.reduceToNat,hl,ha0,hi0,ha1,hi1,c1,CL,LTN])) (by first | exact bp (Nat.le_refl _) | (simp -implicitDefEqProofs only [TT,Ic.t,Ic.ci,Nat.reduceEqDiff,reduceIte,Nat.reduceAdd,Nat.reduceLT,reduceCtorEq,Int.reduceToNat,hl,ha0,hi0,ha1,hi1,c1,CL,LTN]))
end Go.Proofs.Ytdcfoaafkppojaa
