/- Functions of numbers and lists, printed by a program of ours out of the code for the tree level, with their proofs. -/
import Derived.Test.YtdcfoaafkppojaaD1
set_option linter.unusedVariables false
set_option linter.unusedSimpArgs false
set_option linter.unusedSectionVars false
namespace Go.Proofs.Ytdcfoaafkppojaa
open Go Go.RowKit Sh Ic
noncomputable def ca (v0 : aa) (v1 : Int) (v2 : Int) (v3 : ac) (v4 : Int) : Option (LS (Int) (LX (Unit) (Bool))) :=
 if v4 < v2 then
  ixL v0.Parties v4 >>= fun y2 =>
  if y2.Account = v3.Account then
   some (.dn (.rt false))
  else
  some (.nx (IntKind.i64.wrap (v4 + (1 : Int))))
 else
 some (.dn (.ex ()))
noncomputable def bx (v0 : aa) (v1 : Int) (v2 : Int) (v3 : ac) (v4 : Int) : Option (LX (Unit) (Bool)) := ko (fun st => ca v0 v1 v2 v3 st) v4
theorem qc (v0 : aa) (v1 : Int) (v2 : Int) (v3 : ac) (v4 : Int) : bx v0 v1 v2 v3 v4 = ca v0 v1 v2 v3 v4 >>= LS.go (fun st => bx v0 v1 v2 v3 st) := ei (fun st => ca v0 v1 v2 v3 st) v4
def lx (v0 : aa) (v1 : Int) (v2 : Int) (v3 : ac) (v4 : Int) (r : LX (Unit) (Bool)) : Prop := ∀ (τ : TH) (o0 : Nat) (o1 : Nat) (hl : τ.lock ≤ τ.next) (ha0 : τ.at o0 = some ⟨aq,[.str v0.ID,.sl (List.map ac.tv v0.Parties),.sl (List.map af.tv v0.Arcs),.sl (List.map (TV.int .i64) v0.Leaders),.sl (List.map TV.str v0.Locks),.int .i64 v0.Start,.int .i64 v0.Delta]⟩) (hi0 : o0 < τ.next) (ha1 : τ.at o1 = some ⟨fe,[.str v3.Account,.sl (List.map TV.str v3.Keys)]⟩) (hi1 : o1 < τ.next) (Q : TEx → au) (hQ0 : ∀ v : Unit,r = (.ex v) → ∀ (fr : TF) (tk2 : TK) (τ2 : TH),lkp fr 1 = .ptr o0 0 → lkp fr 3 = .int .i64 v1 → lkp fr 4 = .int .i64 v2 → tk2.take 0 = [] → τ2.cut τ.next = τ → Q (.exit 4) fr tk2 τ2) (hQ1 : ∀ v : Bool,r = (.rt v) → ∀ (tk2 : TK) (τ2 : TH),τ2.cut τ.next = τ → Q .ret [(2,.bool v)] tk2 τ2) ,tW G (.loop [1,3,4,5,7] mi) Q [(1,.ptr o0 0),(3,.int .i64 v1),(4,.int .i64 v2),(5,.ptr o1 0),(7,.int .i64 v4)] [] τ
theorem zakw (v0 : aa) (v1 : Int) (v2 : Int) (v3 : ac) (v4 : Int) (r : LX (Unit) (Bool)) (h : bx v0 v1 v2 v3 v4 = some r) : lx v0 v1 v2 v3 v4 r := by
  refine cy (f := fun st => ca v0 v1 v2 v3 st) (P := fun st r => ∀ (v4 : Int),v4 = st → lx v0 v1 v2 v3 v4 r) ?_ h v4 rfl
  clear h r v4
  intro st o h r ih v4 hst τ o0 o1  hl ha0 hi0 ha1 hi1 Q hQ0 hQ1
  subst hst
  have h : ca v0 v1 v2 v3 v4 = some o := h
  unfold ca at h
  refine jm fun LQ hn hr he => ?_
  by_cases c1 : v4 < v2
  · rw [if_pos c1] at h
    obtain ⟨y2,hy2,h⟩ := ob h
    have f3 := a9 hy2
    have f3a := (f3.2.2 ac.tv).1
    have f3b := (f3.2.2 ac.tv).2
    try simp only [CL,MC,Int.reduceToNat] at f3 f3a f3b
    by_cases c4 : y2.Account = v3.Account
    · rw [if_pos c4] at h
      injection h with h; subst h
      obtain rfl : _ = r := ih
      simp -implicitDefEqProofs only [mi,bn,TT,Ic.t,Ic.ci,Nat.reduceEqDiff,reduceIte,Nat.reduceAdd,Nat.reduceLT,reduceCtorEq,Int.reduceToNat,hl,ha0,hi0,ha1,hi1,he,hr,c1,f3.1,f3.2.1,f3a,f3b,eq_true c4,CL,LTN]
      exact hQ1 false rfl  _ _  (by first | exact bp (Nat.le_refl _) | (simp -implicitDefEqProofs only [TT,Ic.t,Ic.ci,Nat.reduceEqDiff,reduceIte,Nat.reduceAdd,Nat.reduceLT,reduceCtorEq,Int.reduceToNat,hl,ha0,hi0,ha1,hi1,c1,f3.1,f3.2.1,f3a,f3b,eq_true c4,CL,LTN]))
    rw [if_neg c4] at h
    injection h with h; subst h
    have ih := ih (IntKind.i64.wrap (v4 + (1 : Int))) rfl
    unfold lx at ih
    simp -implicitDefEqProofs only [mi,bn,TT,Ic.t,Ic.ci,Nat.reduceEqDiff,reduceIte,Nat.reduceAdd,Nat.reduceLT,reduceCtorEq,Int.reduceToNat,hl,ha0,hi0,ha1,hi1,c1,f3.1,f3.2.1,f3a,f3b,c4,CL,LTN]
    rw [hn]
    simp -implicitDefEqProofs only [TT,Ic.t,Ic.ci,Nat.reduceEqDiff,reduceIte,Nat.reduceAdd,Nat.reduceLT,reduceCtorEq,Int.reduceToNat,hl,ha0,hi0,ha1,hi1,c1,f3.1,f3.2.1,f3a,f3b,c4,CL,LTN]
    exact ih  τ o0 o1   (by first | assumption | (simp only [ag,ah]; assumption)) (by simp -implicitDefEqProofs only [TT,Ic.t,Ic.ci,Nat.reduceEqDiff,reduceIte,Nat.reduceAdd,Nat.reduceLT,reduceCtorEq,Int.reduceToNat,hl,ha0,hi0,ha1,hi1,c1,f3.1,f3.2.1,f3a,f3b,c4,CL,LTN]) (by first | assumption | (simp only [ag,ah]; assumption)) (by simp -implicitDefEqProofs only [TT,Ic.t,Ic.ci,Nat.reduceEqDiff,reduceIte,Nat.reduceAdd,Nat.reduceLT,reduceCtorEq,Int.reduceToNat,hl,ha0,hi0,ha1,hi1,c1,f3.1,f3.2.1,f3a,f3b,c4,CL,LTN]) (by first | assumption | (simp only [ag,ah]; assumption)) Q hQ0 hQ1
  rw [if_neg c1] at h
  injection h with h; subst h
  obtain rfl : _ = r := ih
  simp -implicitDefEqProofs only [mi,bn,TT,Ic.t,Ic.ci,Nat.reduceEqDiff,reduceIte,Nat.reduceAdd,Nat.reduceLT,reduceCtorEq,Int.reduceToNat,hl,ha0,hi0,ha1,hi1,he,hr,c1,CL,LTN]
  exact hQ0 () rfl  _ _ _  (by first | rfl | (simp -implicitDefEqProofs only [TT,Ic.t,Ic.ci,Nat.reduceEqDiff,reduceIte,Nat.reduceAdd,Nat.reduceLT,reduceCtorEq,Int.reduceToNat,hl,ha0,hi0,ha1,hi1,c1,CL,LTN])) (by first | rfl | (simp -implicitDefEqProofs only [TT,Ic.t,Ic.ci,Nat.reduceEqDiff,reduceIte,Nat.reduceAdd,Nat.reduceLT,reduceCtorEq,Int.reduceToNat,hl,ha0,hi0,ha1,hi1,c1,CL,LTN])) (by first | rfl | (simp -implicitDefEqProofs only [TT,Ic.t,Ic.ci,Nat.reduceEqDiff,reduceIte,Nat.reduceAdd,Nat.reduceLT,reduceCtorEq,Int.reduceToNat,hl,ha0,hi0,ha1,hi1,c1,CL,LTN])) (by first | rfl | (simp -implicitDefEqProofs only [TT,Ic.t,Ic.ci,Nat.reduceEqDiff,reduceIte,Nat.reduceAdd,Nat.reduceLT,reduceCtorEq,Int.reduceToNat,hl,ha0,hi0,ha1,hi1,c1,CL,LTN])) (by first | exact bp (Nat.le_refl _) | (simp -implicitDefEqProofs only [TT,Ic.t,Ic.ci,Nat.reduceEqDiff,reduceIte,Nat.reduceAdd,Nat.reduceLT,reduceCtorEq,Int.reduceToNat,hl,ha0,hi0,ha1,hi1,c1,CL,LTN]))
noncomputable def cd (v0 : aa) (v1 : Int) (v2 : Int) : Option (LS (Int) (LX (Unit) (Bool))) :=
 if v2 < v1 then
  ixL v0.Parties v2 >>= fun y2 =>
  qv y2.Account >>= fun y4 =>
  if y4 = true then
   if ((y2.Keys.length : Nat) : Int) = ((v0.Leaders.length : Nat) : Int) then
    dm v0 v1 v2 (⟨y2.Account,y2.Keys⟩ : ac) (0 : Int) >>= fun y8 =>
    match y8 with
    | .ex w9 =>
     bx v0 v1 v2 (⟨y2.Account,y2.Keys⟩ : ac) (0 : Int) >>= fun y13 =>
     match y13 with
     | .ex w14 =>
      some (.nx (IntKind.i64.wrap (v2 + (1 : Int))))
     | .rt w16 =>
      some (.dn (.rt w16))
    | .rt w11 =>
     some (.dn (.rt w11))
   else
   some (.dn (.rt false))
  else
  some (.dn (.rt false))
 else
 some (.dn (.ex ()))
noncomputable def dp (v0 : aa) (v1 : Int) (v2 : Int) : Option (LX (Unit) (Bool)) := ko (fun st => cd v0 v1 st) v2
theorem qe (v0 : aa) (v1 : Int) (v2 : Int) : dp v0 v1 v2 = cd v0 v1 v2 >>= LS.go (fun st => dp v0 v1 st) := ei (fun st => cd v0 v1 st) v2
def lz (v0 : aa) (v1 : Int) (v2 : Int) (r : LX (Unit) (Bool)) : Prop := ∀ (τ : TH) (o0 : Nat) (hl : τ.lock ≤ τ.next) (ha0 : τ.at o0 = some ⟨aq,[.str v0.ID,.sl (List.map ac.tv v0.Parties),.sl (List.map af.tv v0.Arcs),.sl (List.map (TV.int .i64) v0.Leaders),.sl (List.map TV.str v0.Locks),.int .i64 v0.Start,.int .i64 v0.Delta]⟩) (hi0 : o0 < τ.next) (Q : TEx → au) (hQ0 : ∀ v : Unit,r = (.ex v) → ∀ (fr : TF) (tk2 : TK) (τ2 : TH),tk2.take 0 = [] → τ2.cut τ.next = τ → Q (.exit 0) fr tk2 τ2) (hQ1 : ∀ v : Bool,r = (.rt v) → ∀ (tk2 : TK) (τ2 : TH),τ2.cut τ.next = τ → Q .ret [(2,.bool v)] tk2 τ2) ,tW G (.loop [1,3,4] ew) Q [(1,.ptr o0 0),(3,.int .i64 v1),(4,.int .i64 v2)] [] τ
theorem zaky (v0 : aa) (v1 : Int) (v2 : Int) (r : LX (Unit) (Bool)) (h : dp v0 v1 v2 = some r) : lz v0 v1 v2 r := by
  refine cy (f := fun st => cd v0 v1 st) (P := fun st r => ∀ (v2 : Int),v2 = st → lz v0 v1 v2 r) ?_ h v2 rfl
  clear h r v2
  intro st o h r ih v2 hst τ o0  hl ha0 hi0 Q hQ0 hQ1
  subst hst
  have h : cd v0 v1 v2 = some o := h
  unfold cd at h
  refine jm fun LQ hn hr he => ?_
  by_cases c1 : v2 < v1
  · rw [if_pos c1] at h
    obtain ⟨y2,hy2,h⟩ := ob h
    have f3 := a9 hy2
    have f3a := (f3.2.2 ac.tv).1
    have f3b := (f3.2.2 ac.tv).2
    try simp only [CL,MC,Int.reduceToNat] at f3 f3a f3b
    obtain ⟨y4,hy4,h⟩ := ob h
    have k5 := zaeg y2.Account _ hy4
    try simp only [CL,MC,Int.reduceToNat] at k5
    by_cases c6 : y4 = true
    · rw [if_pos c6] at h
      by_cases c7 : ((y2.Keys.length : Nat) : Int) = ((v0.Leaders.length : Nat) : Int)
      · rw [if_pos c7] at h
        obtain ⟨y8,hy8,h⟩ := ob h
        simp -implicitDefEqProofs only [ew,bn,TT,Ic.t,Ic.ci,Nat.reduceEqDiff,reduceIte,Nat.reduceAdd,Nat.reduceLT,reduceCtorEq,Int.reduceToNat,hl,ha0,hi0,c1,f3.1,f3.2.1,f3a,f3b,k5,c6,eq_true c7,CL,LTN]
        have Sy8 := zakx v0 v1 v2 (⟨y2.Account,y2.Keys⟩ : ac) (0 : Int) y8 hy8
        unfold ly at Sy8
        refine Sy8 _ o0 τ.next (by first | assumption | omega | (simp only [ag,aj,ah,av]; omega)) (by simp -implicitDefEqProofs only [TT,Ic.t,Ic.ci,Nat.reduceEqDiff,reduceIte,Nat.reduceAdd,Nat.reduceLT,reduceCtorEq,Int.reduceToNat,hl,ha0,hi0,c1,f3.1,f3.2.1,f3a,f3b,k5,c6,eq_true c7,CL,LTN]) (by first | assumption | omega | (simp only [ag,aj,ah,av]; omega)) (by simp -implicitDefEqProofs only [TT,Ic.t,Ic.ci,Nat.reduceEqDiff,reduceIte,Nat.reduceAdd,Nat.reduceLT,reduceCtorEq,Int.reduceToNat,hl,ha0,hi0,c1,f3.1,f3.2.1,f3a,f3b,k5,c6,eq_true c7,CL,LTN]) (by first | assumption | omega | (simp only [ag,aj,ah,av]; omega)) _ ?_ ?_
        · intro w9 e frq10 tkq10 τq10 g1q10 g3q10 g4q10 g5q10 htq10 hcq10
          subst e
          simp only at h
          have hcq10 := bq (n := τ.next + 1) hcq10 (by first | omega | (simp only [ag,aj]; omega))
          try simp only [List.take_succ_cons,List.take_zero,List.take_nil,CL] at htq10
          try simp -implicitDefEqProofs only [TT,Ic.t,Ic.ci,Nat.reduceEqDiff,reduceIte,Nat.reduceAdd,Nat.reduceLT,reduceCtorEq,Int.reduceToNat,hl,ha0,hi0,c1,f3.1,f3.2.1,f3a,f3b,k5,c6,eq_true c7,CL,LTN] at hcq10
          obtain ⟨y13,hy13,h⟩ := ob h
          simp -implicitDefEqProofs only [ew,bn,TT,Ic.t,Ic.ci,Nat.reduceEqDiff,reduceIte,Nat.reduceAdd,Nat.reduceLT,reduceCtorEq,Int.reduceToNat,hl,ha0,hi0,c1,f3.1,f3.2.1,f3a,f3b,k5,c6,eq_true c7,g1q10,g3q10,g4q10,g5q10,htq10,hcq10,CL,LTN]
          have Sy13 := zakw v0 v1 v2 (⟨y2.Account,y2.Keys⟩ : ac) (0 : Int) y13 hy13
          unfold lx at Sy13
          refine Sy13 _ o0 τ.next (by first | assumption | omega | (simp only [ag,aj,ah,av]; omega)) (by simp -implicitDefEqProofs only [TT,Ic.t,Ic.ci,Nat.reduceEqDiff,reduceIte,Nat.reduceAdd,Nat.reduceLT,reduceCtorEq,Int.reduceToNat,hl,ha0,hi0,c1,f3.1,f3.2.1,f3a,f3b,k5,c6,eq_true c7,g1q10,g3q10,g4q10,g5q10,htq10,hcq10,CL,LTN]) (by first | assumption | omega | (simp only [ag,aj,ah,av]; omega)) (by simp -implicitDefEqProofs only [TT,Ic.t,Ic.ci,Nat.reduceEqDiff,reduceIte,Nat.reduceAdd,Nat.reduceLT,reduceCtorEq,Int.reduceToNat,hl,ha0,hi0,c1,f3.1,f3.2.1,f3a,f3b,k5,c6,eq_true c7,g1q10,g3q10,g4q10,g5q10,htq10,hcq10,CL,LTN]) (by first | assumption | omega | (simp only [ag,aj,ah,av]; omega)) _ ?_ ?_
          · intro w14 e frq15 tkq15 τq15 g1q15 g3q15 g4q15 htq15 hcq15
            subst e
            simp only at h
            have hcq15 := bq (n := τ.next + 1) hcq15 (by first | omega | (simp only [ag,aj]; omega))
            try simp only [List.take_succ_cons,List.take_zero,List.take_nil,CL] at htq15
            try simp -implicitDefEqProofs only [TT,Ic.t,Ic.ci,Nat.reduceEqDiff,reduceIte,Nat.reduceAdd,Nat.reduceLT,reduceCtorEq,Int.reduceToNat,hl,ha0,hi0,c1,f3.1,f3.2.1,f3a,f3b,k5,c6,eq_true c7,g1q10,g3q10,g4q10,g5q10,htq10,hcq10,CL,LTN] at hcq15
            injection h with h; subst h
            have ih := ih (IntKind.i64.wrap (v2 + (1 : Int))) rfl
            unfold lz at ih
            simp -implicitDefEqProofs only [ew,bn,TT,Ic.t,Ic.ci,Nat.reduceEqDiff,reduceIte,Nat.reduceAdd,Nat.reduceLT,reduceCtorEq,Int.reduceToNat,hl,ha0,hi0,c1,f3.1,f3.2.1,f3a,f3b,k5,c6,eq_true c7,g1q10,g3q10,g4q10,g5q10,htq10,hcq10,g1q15,g3q15,g4q15,htq15,hcq15,CL,LTN]
            rw [hn]
            simp -implicitDefEqProofs only [TT,Ic.t,Ic.ci,Nat.reduceEqDiff,reduceIte,Nat.reduceAdd,Nat.reduceLT,reduceCtorEq,Int.reduceToNat,hl,ha0,hi0,c1,f3.1,f3.2.1,f3a,f3b,k5,c6,eq_true c7,g1q10,g3q10,g4q10,g5q10,htq10,hcq10,g1q15,g3q15,g4q15,htq15,hcq15,CL,LTN]
            exact ih  τ o0   (by first | assumption | (simp only [ag,ah]; assumption)) (by simp -implicitDefEqProofs only [TT,Ic.t,Ic.ci,Nat.reduceEqDiff,reduceIte,Nat.reduceAdd,Nat.reduceLT,reduceCtorEq,Int.reduceToNat,hl,ha0,hi0,c1,f3.1,f3.2.1,f3a,f3b,k5,c6,eq_true c7,g1q10,g3q10,g4q10,g5q10,htq10,hcq10,g1q15,g3q15,g4q15,htq15,hcq15,CL,LTN]) (by first | assumption | (simp only [ag,ah]; assumption)) Q hQ0 hQ1
          intro w16 e tkq17 τq17 hcq17
          subst e
          simp only at h
          have hcq17 := bq (n := τ.next) hcq17 (by first | omega | (simp only [ag,aj]; omega))
          try simp -implicitDefEqProofs only [TT,Ic.t,Ic.ci,Nat.reduceEqDiff,reduceIte,Nat.reduceAdd,Nat.reduceLT,reduceCtorEq,Int.reduceToNat,hl,ha0,hi0,c1,f3.1,f3.2.1,f3a,f3b,k5,c6,eq_true c7,g1q10,g3q10,g4q10,g5q10,htq10,hcq10,CL,LTN] at hcq17
          injection h with h; subst h
          obtain rfl : _ = r := ih
          simp -implicitDefEqProofs only [ew,bn,TT,Ic.t,Ic.ci,Nat.reduceEqDiff,reduceIte,Nat.reduceAdd,Nat.reduceLT,reduceCtorEq,Int.reduceToNat,hl,ha0,hi0,he,hr,c1,f3.1,f3.2.1,f3a,f3b,k5,c6,eq_true c7,g1q10,g3q10,g4q10,g5q10,htq10,hcq10,hcq17,CL,LTN]
          exact hQ1 w16 rfl  _ _  (by first | exact bp (Nat.le_refl _) | (simp -implicitDefEqProofs only [TT,Ic.t,Ic.ci,Nat.reduceEqDiff,reduceIte,Nat.reduceAdd,Nat.reduceLT,reduceCtorEq,Int.reduceToNat,hl,ha0,hi0,c1,f3.1,f3.2.1,f3a,f3b,k5,c6,eq_true c7,g1q10,g3q10,g4q10,g5q10,htq10,hcq10,hcq17,CL,LTN]))
        intro w11 e tkq12 τq12 hcq12
        subst e
        simp only at h
        have hcq12 := bq (n := τ.next) hcq12 (by first | omega | (simp only [ag,aj]; omega))
        try simp -implicitDefEqProofs only [TT,Ic.t,Ic.ci,Nat.reduceEqDiff,reduceIte,Nat.reduceAdd,Nat.reduceLT,reduceCtorEq,Int.reduceToNat,hl,ha0,hi0,c1,f3.1,f3.2.1,f3a,f3b,k5,c6,eq_true c7,CL,LTN] at hcq12
        injection h with h; subst h
        obtain rfl : _ = r := ih
        simp -implicitDefEqProofs only [ew,bn,TT,Ic.t,Ic.ci,Nat.reduceEqDiff,reduceIte,Nat.reduceAdd,Nat.reduceLT,reduceCtorEq,Int.reduceToNat,hl,ha0,hi0,he,hr,c1,f3.1,f3.2.1,f3a,f3b,k5,c6,eq_true c7,hcq12,CL,LTN]
        exact hQ1 w11 rfl  _ _  (by first | exact bp (Nat.le_refl _) | (simp -implicitDefEqProofs only [TT,Ic.t,Ic.ci,Nat.reduceEqDiff,reduceIte,Nat.reduceAdd,Nat.reduceLT,reduceCtorEq,Int.reduceToNat,hl,ha0,hi0,c1,f3.1,f3.2.1,f3a,f3b,k5,c6,eq_true c7,hcq12,CL,LTN]))
      rw [if_neg c7] at h
      injection h with h; subst h
      obtain rfl : _ = r := ih
      simp -implicitDefEqProofs only [ew,bn,TT,Ic.t,Ic.ci,Nat.reduceEqDiff,reduceIte,Nat.reduceAdd,Nat.reduceLT,reduceCtorEq,Int.reduceToNat,hl,ha0,hi0,he,hr,c1,f3.1,f3.2.1,f3a,f3b,k5,c6,c7,CL,LTN]
      exact hQ1 false rfl  _ _  (by first | exact bp (Nat.le_refl _) | (simp -implicitDefEqProofs only [TT,Ic.t,Ic.ci,Nat.reduceEqDiff,reduceIte,Nat.reduceAdd,Nat.reduceLT,reduceCtorEq,Int.reduceToNat,hl,ha0,hi0,c1,f3.1,f3.2.1,f3a,f3b,k5,c6,c7,CL,LTN]))
    rw [if_neg c6] at h
    have c6 := Bool.eq_false_iff.2 c6
    injection h with h; subst h
    obtain rfl : _ = r := ih
    simp -implicitDefEqProofs only [ew,bn,TT,Ic.t,Ic.ci,Nat.reduceEqDiff,reduceIte,Nat.reduceAdd,Nat.reduceLT,reduceCtorEq,Int.reduceToNat,hl,ha0,hi0,he,hr,c1,f3.1,f3.2.1,f3a,f3b,k5,c6,CL,LTN]
    exact hQ1 false rfl  _ _  (by first | exact bp (Nat.le_refl _) | (simp -implicitDefEqProofs only [TT,Ic.t,Ic.ci,Nat.reduceEqDiff,reduceIte,Nat.reduceAdd,Nat.reduceLT,reduceCtorEq,Int.reduceToNat,hl,ha0,hi0,c1,f3.1,f3.2.1,f3a,f3b,k5,c6,CL,LTN]))
  rw [if_neg c1] at h
  injection h with h; subst h
  obtain rfl : _ = r := ih
  simp -implicitDefEqProofs only [ew,bn,TT,Ic.t,Ic.ci,Nat.reduceEqDiff,reduceIte,Nat.reduceAdd,Nat.reduceLT,reduceCtorEq,Int.reduceToNat,hl,ha0,hi0,he,hr,c1,CL,LTN]
  exact hQ0 () rfl  _ _ _   (by first | rfl | (simp -implicitDefEqProofs only [TT,Ic.t,Ic.ci,Nat.reduceEqDiff,reduceIte,Nat.reduceAdd,Nat.reduceLT,reduceCtorEq,Int.reduceToNat,hl,ha0,hi0,c1,CL,LTN])) (by first | exact bp (Nat.le_refl _) | (simp -implicitDefEqProofs only [TT,Ic.t,Ic.ci,Nat.reduceEqDiff,reduceIte,Nat.reduceAdd,Nat.reduceLT,reduceCtorEq,Int.reduceToNat,hl,ha0,hi0,c1,CL,LTN]))
noncomputable def kb (p1 : aa) : Option Bool :=
 if ((p1.Parties.length : Nat) : Int) < (2 : Int) then
  some false
 else
 if (6 : Int) < ((p1.Parties.length : Nat) : Int) then
  some false
 else
 dp p1 ((p1.Parties.length : Nat) : Int) (0 : Int) >>= fun y3 =>
 match y3 with
 | .ex w4 =>
  some true
 | .rt w6 =>
  some w6
theorem zaee (p1 : aa) (r : Bool) (h : kb p1 = some r) (τ : TH) (hl : τ.lock ≤ τ.next) : Ru G nv [.agg [.str p1.ID,.sl (List.map ac.tv p1.Parties),.sl (List.map af.tv p1.Arcs),.sl (List.map (TV.int .i64) p1.Leaders),.sl (List.map TV.str p1.Locks),.int .i64 p1.Start,.int .i64 p1.Delta]] τ (.bool r) τ := by
  refine jk fun K hK => ?_
  rw [b7 zavg (Nat.le_of_ble_eq_true rfl)]
  unfold kb at h
  by_cases c1 : ((p1.Parties.length : Nat) : Int) < (2 : Int)
  · rw [if_pos c1] at h
    injection h with h; subst h
    simp -implicitDefEqProofs only [bn,TT,Ic.t,Ic.ci,Nat.reduceEqDiff,reduceIte,Nat.reduceAdd,Nat.reduceLT,reduceCtorEq,Int.reduceToNat,hl,c1,CL,LTN]
    exact hK
  rw [if_neg c1] at h
  by_cases c2 : (6 : Int) < ((p1.Parties.length : Nat) : Int)
  · rw [if_pos c2] at h
    injection h with h; subst h
    simp -implicitDefEqProofs only [bn,TT,Ic.t,Ic.ci,Nat.reduceEqDiff,reduceIte,Nat.reduceAdd,Nat.reduceLT,reduceCtorEq,Int.reduceToNat,hl,c1,c2,CL,LTN]
    exact hK
  rw [if_neg c2] at h
  obtain ⟨y3,hy3,h⟩ := ob h
  simp -implicitDefEqProofs only [bn,TT,Ic.t,Ic.ci,Nat.reduceEqDiff,reduceIte,Nat.reduceAdd,Nat.reduceLT,reduceCtorEq,Int.reduceToNat,hl,c1,c2,CL,LTN]
  have Sy3 := zaky p1 ((p1.Parties.length : Nat) : Int) (0 : Int) y3 hy3
  unfold lz at Sy3
  refine Sy3 _ τ.next (by first | assumption | omega | (simp only [ag,aj,ah,av]; omega)) (by simp -implicitDefEqProofs only [TT,Ic.t,Ic.ci,Nat.reduceEqDiff,reduceIte,Nat.reduceAdd,Nat.reduceLT,reduceCtorEq,Int.reduceToNat,hl,c1,c2,CL,LTN]) (by first | assumption | omega | (simp only [ag,aj,ah,av]; omega)) _ ?_ ?_
  · intro w4 e frq5 tkq5 τq5 htq5 hcq5
    subst e
    simp only at h
    have hcq5 := bq (n := τ.next + 1) hcq5 (by first | omega | (simp only [ag,aj]; omega))
    try simp only [List.take_succ_cons,List.take_zero,List.take_nil,CL] at htq5
    try simp -implicitDefEqProofs only [TT,Ic.t,Ic.ci,Nat.reduceEqDiff,reduceIte,Nat.reduceAdd,Nat.reduceLT,reduceCtorEq,Int.reduceToNat,hl,c1,c2,CL,LTN] at hcq5
    injection h with h; subst h
    simp -implicitDefEqProofs only [bn,TT,Ic.t,Ic.ci,Nat.reduceEqDiff,reduceIte,Nat.reduceAdd,Nat.reduceLT,reduceCtorEq,Int.reduceToNat,hl,c1,c2,htq5,hcq5,CL,LTN]
    exact hK
  intro w6 e tkq7 τq7 hcq7
  subst e
  simp only at h
  have hcq7 := bq (n := τ.next) hcq7 (by first | omega | (simp only [ag,aj]; omega))
  try simp -implicitDefEqProofs only [TT,Ic.t,Ic.ci,Nat.reduceEqDiff,reduceIte,Nat.reduceAdd,Nat.reduceLT,reduceCtorEq,Int.reduceToNat,hl,c1,c2,CL,LTN] at hcq7
  injection h with h; subst h
  simp -implicitDefEqProofs only [bn,TT,Ic.t,Ic.ci,Nat.reduceEqDiff,reduceIte,Nat.reduceAdd,Nat.reduceLT,reduceCtorEq,Int.reduceToNat,hl,c1,c2,hcq7,CL,LTN]
  exact hK
theorem zaro (p1 : aa) (r : Bool) (h : kb p1 = some r) (lk : Bool) (d : Option Nat) (K : au) (fr : TF) (tk : TK) (τ : TH) (hl : τ.lock ≤ τ.next) : fv G lk nv [.agg [.str p1.ID,.sl (List.map ac.tv p1.Parties),.sl (List.map af.tv p1.Arcs),.sl (List.map (TV.int .i64) p1.Leaders),.sl (List.map TV.str p1.Locks),.int .i64 p1.Start,.int .i64 p1.Delta]] d K fr tk τ = K (fu fr d (.bool r)) tk τ :=
  aw (zaee p1 r h τ  hl) (zaee p1 r h (τ.locked τ.next)  (Nat.le_refl _) ) (by simp -implicitDefEqProofs only [TT,Ic.t,Ic.ci,Nat.reduceEqDiff,reduceIte,Nat.reduceAdd,Nat.reduceLT,reduceCtorEq,Int.reduceToNat,hl,CL,LTN])
noncomputable def d7 (v0 : aa) (v1 : Int) (v2 : Int) (v3 : af) (v4 : Int) : Option (LS (Int) (LX (Unit) (Bool))) :=
 if v4 < v2 then
  ixL v0.Arcs v4 >>= fun y2 =>
  if y2.From = v3.From then
   if y2.To = v3.To then
    some (.dn (.rt false))
   else
   some (.nx (IntKind.i64.wrap (v4 + (1 : Int))))
  else
  some (.nx (IntKind.i64.wrap (v4 + (1 : Int))))
 else
 some (.dn (.ex ()))
noncomputable def gb (v0 : aa) (v1 : Int) (v2 : Int) (v3 : af) (v4 : Int) : Option (LX (Unit) (Bool)) := ko (fun st => d7 v0 v1 v2 v3 st) v4
theorem ua (v0 : aa) (v1 : Int) (v2 : Int) (v3 : af) (v4 : Int) : gb v0 v1 v2 v3 v4 = d7 v0 v1 v2 v3 v4 >>= LS.go (fun st => gb v0 v1 v2 v3 st) := ei (fun st => d7 v0 v1 v2 v3 st) v4
def ms (v0 : aa) (v1 : Int) (v2 : Int) (v3 : af) (v4 : Int) (r : LX (Unit) (Bool)) : Prop := ∀ (τ : TH) (o0 : Nat) (o1 : Nat) (hl : τ.lock ≤ τ.next) (ha0 : τ.at o0 = some ⟨aq,[.str v0.ID,.sl (List.map ac.tv v0.Parties),.sl (List.map af.tv v0.Arcs),.sl (List.map (TV.int .i64) v0.Leaders),.sl (List.map TV.str v0.Locks),.int .i64 v0.Start,.int .i64 v0.Delta]⟩) (hi0 : o0 < τ.next) (ha1 : τ.at o1 = some ⟨ou,[.int .i64 v3.From,.int .i64 v3.To,.int .i64 v3.Ledger,.str v3.Asset,.int .i64 v3.Amount]⟩) (hi1 : o1 < τ.next) (Q : TEx → au) (hQ0 : ∀ v : Unit,r = (.ex v) → ∀ (fr : TF) (tk2 : TK) (τ2 : TH),lkp fr 1 = .ptr o0 0 → lkp fr 3 = .int .i64 v1 → lkp fr 4 = .int .i64 v2 → tk2.take 0 = [] → τ2.cut τ.next = τ → Q (.exit 2) fr tk2 τ2) (hQ1 : ∀ v : Bool,r = (.rt v) → ∀ (tk2 : TK) (τ2 : TH),τ2.cut τ.next = τ → Q .ret [(2,.bool v)] tk2 τ2) ,tW G (.loop [1,3,4,5,6] qo) Q [(1,.ptr o0 0),(3,.int .i64 v1),(4,.int .i64 v2),(5,.ptr o1 0),(6,.int .i64 v4)] [] τ
theorem zarq (v0 : aa) (v1 : Int) (v2 : Int) (v3 : af) (v4 : Int) (r : LX (Unit) (Bool)) (h : gb v0 v1 v2 v3 v4 = some r) : ms v0 v1 v2 v3 v4 r := by
  refine cy (f := fun st => d7 v0 v1 v2 v3 st) (P := fun st r => ∀ (v4 : Int),v4 = st → ms v0 v1 v2 v3 v4 r) ?_ h v4 rfl
  clear h r v4
  intro st o h r ih v4 hst τ o0 o1  hl ha0 hi0 ha1 hi1 Q hQ0 hQ1
  subst hst
  have h : d7 v0 v1 v2 v3 v4 = some o := h
  unfold d7 at h
  refine jm fun LQ hn hr he => ?_
  by_cases c1 : v4 < v2
  · rw [if_pos c1] at h
    obtain ⟨y2,hy2,h⟩ := ob h
    have f3 := a9 hy2
    have f3a := (f3.2.2 af.tv).1
    have f3b := (f3.2.2 af.tv).2
    try simp only [CL,MC,Int.reduceToNat] at f3 f3a f3b
    by_cases c4 : y2.From = v3.From
    · rw [if_pos c4] at h
      by_cases c5 : y2.To = v3.To
      · rw [if_pos c5] at h
        injection h with h; subst h
        obtain rfl : _ = r := ih
        simp -implicitDefEqProofs only [qo,dh,TT,Ic.t,Ic.ci,Nat.reduceEqDiff,reduceIte,Nat.reduceAdd,Nat.reduceLT,reduceCtorEq,Int.reduceToNat,hl,ha0,hi0,ha1,hi1,he,hr,c1,f3.1,f3.2.1,f3a,f3b,eq_true c4,eq_true c5,CL,LTN]
        exact hQ1 false rfl  _ _  (by first | exact bp (Nat.le_refl _) | (simp -implicitDefEqProofs only [TT,Ic.t,Ic.ci,Nat.reduceEqDiff,reduceIte,Nat.reduceAdd,Nat.reduceLT,reduceCtorEq,Int.reduceToNat,hl,ha0,hi0,ha1,hi1,c1,f3.1,f3.2.1,f3a,f3b,eq_true c4,eq_true c5,CL,LTN]))
      rw [if_neg c5] at h
      injection h with h; subst h
      have ih := ih (IntKind.i64.wrap (v4 + (1 : Int))) rfl
      unfold ms at ih
      simp -implicitDefEqProofs only [qo,dh,TT,Ic.t,Ic.ci,Nat.reduceEqDiff,reduceIte,Nat.reduceAdd,Nat.reduceLT,reduceCtorEq,Int.reduceToNat,hl,ha0,hi0,ha1,hi1,c1,f3.1,f3.2.1,f3a,f3b,eq_true c4,c5,CL,LTN]
      rw [hn]
      simp -implicitDefEqProofs only [TT,Ic.t,Ic.ci,Nat.reduceEqDiff,reduceIte,Nat.reduceAdd,Nat.reduceLT,reduceCtorEq,Int.reduceToNat,hl,ha0,hi0,ha1,hi1,c1,f3.1,f3.2.1,f3a,f3b,eq_true c4,c5,CL,LTN]
      exact ih  τ o0 o1   (by first | assumption | (simp only [ag,ah]; assumption)) (by simp -implicitDefEqProofs only [TT,Ic.t,Ic.ci,Nat.reduceEqDiff,reduceIte,Nat.reduceAdd,Nat.reduceLT,reduceCtorEq,Int.reduceToNat,hl,ha0,hi0,ha1,hi1,c1,f3.1,f3.2.1,f3a,f3b,eq_true c4,c5,CL,LTN]) (by first | assumption | (simp only [ag,ah]; assumption)) (by simp -implicitDefEqProofs only [TT,Ic.t,Ic.ci,Nat.reduceEqDiff,reduceIte,Nat.reduceAdd,Nat.reduceLT,reduceCtorEq,Int.reduceToNat,hl,ha0,hi0,ha1,hi1,c1,f3.1,f3.2.1,f3a,f3b,eq_true c4,c5,CL,LTN]) (by first | assumption | (simp only [ag,ah]; assumption)) Q hQ0 hQ1
    rw [if_neg c4] at h
    injection h with h; subst h
    have ih := ih (IntKind.i64.wrap (v4 + (1 : Int))) rfl
    unfold ms at ih
    simp -implicitDefEqProofs only [qo,dh,TT,Ic.t,Ic.ci,Nat.reduceEqDiff,reduceIte,Nat.reduceAdd,Nat.reduceLT,reduceCtorEq,Int.reduceToNat,hl,ha0,hi0,ha1,hi1,c1,f3.1,f3.2.1,f3a,f3b,c4,CL,LTN]
    rw [hn]
    simp -implicitDefEqProofs only [TT,Ic.t,Ic.ci,Nat.reduceEqDiff,reduceIte,Nat.reduceAdd,Nat.reduceLT,reduceCtorEq,Int.reduceToNat,hl,ha0,hi0,ha1,hi1,c1,f3.1,f3.2.1,f3a,f3b,c4,CL,LTN]
    exact ih  τ o0 o1   (by first | assumption | (simp only [ag,ah]; assumption)) (by simp -implicitDefEqProofs only [TT,Ic.t,Ic.ci,Nat.reduceEqDiff,reduceIte,Nat.reduceAdd,Nat.reduceLT,reduceCtorEq,Int.reduceToNat,hl,ha0,hi0,ha1,hi1,c1,f3.1,f3.2.1,f3a,f3b,c4,CL,LTN]) (by first | assumption | (simp only [ag,ah]; assumption)) (by simp -implicitDefEqProofs only [TT,Ic.t,Ic.ci,Nat.reduceEqDiff,reduceIte,Nat.reduceAdd,Nat.reduceLT,reduceCtorEq,Int.reduceToNat,hl,ha0,hi0,ha1,hi1,c1,f3.1,f3.2.1,f3a,f3b,c4,CL,LTN]) (by first | assumption | (simp only [ag,ah]; assumption)) Q hQ0 hQ1
  rw [if_neg c1] at h
  injection h with h; subst h
  obtain rfl : _ = r := ih
  simp -implicitDefEqProofs only [qo,dh,TT,Ic.t,Ic.ci,Nat.reduceEqDiff,reduceIte,Nat.reduceAdd,Nat.reduceLT,reduceCtorEq,Int.reduceToNat,hl,ha0,hi0,ha1,hi1,he,hr,c1,CL,LTN]
  exact hQ0 () rfl  _ _ _  (by first | rfl | (simp -implicitDefEqProofs only [TT,Ic.t,Ic.ci,Nat.reduceEqDiff,reduceIte,Nat.reduceAdd,Nat.reduceLT,reduceCtorEq,Int.reduceToNat,hl,ha0,hi0,ha1,hi1,c1,CL,LTN])) (by first | rfl | (simp -implicitDefEqProofs only [TT,Ic.t,Ic.ci,Nat.reduceEqDiff,reduceIte,Nat.reduceAdd,Nat.reduceLT,reduceCtorEq,Int.reduceToNat,hl,ha0,hi0,ha1,hi1,c1,CL,LTN])) (by first | rfl | (simp -implicitDefEqProofs only [TT,Ic.t,Ic.ci,Nat.reduceEqDiff,reduceIte,Nat.reduceAdd,Nat.reduceLT,reduceCtorEq,Int.reduceToNat,hl,ha0,hi0,ha1,hi1,c1,CL,LTN])) (by first | rfl | (simp -implicitDefEqProofs only [TT,Ic.t,Ic.ci,Nat.reduceEqDiff,reduceIte,Nat.reduceAdd,Nat.reduceLT,reduceCtorEq,Int.reduceToNat,hl,ha0,hi0,ha1,hi1,c1,CL,LTN])) (by first | exact bp (Nat.le_refl _) | (simp -implicitDefEqProofs only [TT,Ic.t,Ic.ci,Nat.reduceEqDiff,reduceIte,Nat.reduceAdd,Nat.reduceLT,reduceCtorEq,Int.reduceToNat,hl,ha0,hi0,ha1,hi1,c1,CL,LTN]))
noncomputable def d8 (v0 : aa) (v1 : Int) (v2 : Int) : Option (LS (Int) (LX (Unit) (Bool))) :=
 if v2 < ((v0.Arcs.length : Nat) : Int) then
  ixL v0.Arcs v2 >>= fun y2 =>
  if y2.From < (0 : Int) then
   some (.dn (.rt false))
  else
  if v1 ≤ y2.From then
   some (.dn (.rt false))
  else
  if y2.To < (0 : Int) then
   some (.dn (.rt false))
  else
  if v1 ≤ y2.To then
   some (.dn (.rt false))
  else
  if y2.From = y2.To then
   some (.dn (.rt false))
  else
  if y2.Ledger < (0 : Int) then
   some (.dn (.rt false))
  else
  if (4 : Int) ≤ y2.Ledger then
   some (.dn (.rt false))
  else
  qv y2.Asset >>= fun y11 =>
  if y11 = true then
   if y2.Amount < (1 : Int) then
    some (.dn (.rt false))
   else
   if (1125899906842624 : Int) < y2.Amount then
    some (.dn (.rt false))
   else
   gb v0 v1 v2 (⟨y2.From,y2.To,y2.Ledger,y2.Asset,y2.Amount⟩ : af) (0 : Int) >>= fun y16 =>
   match y16 with
   | .ex w17 =>
    some (.nx (IntKind.i64.wrap (v2 + (1 : Int))))
   | .rt w19 =>
    some (.dn (.rt w19))
  else
  some (.dn (.rt false))
 else
 some (.dn (.ex ()))
noncomputable def gc (v0 : aa) (v1 : Int) (v2 : Int) : Option (LX (Unit) (Bool)) := ko (fun st => d8 v0 v1 st) v2
theorem ub (v0 : aa) (v1 : Int) (v2 : Int) : gc v0 v1 v2 = d8 v0 v1 v2 >>= LS.go (fun st => gc v0 v1 st) := ei (fun st => d8 v0 v1 st) v2
def rx (v0 : aa) (v1 : Int) (v2 : Int) (r : LX (Unit) (Bool)) : Prop := ∀ (τ : TH) (o0 : Nat) (hl : τ.lock ≤ τ.next) (ha0 : τ.at o0 = some ⟨aq,[.str v0.ID,.sl (List.map ac.tv v0.Parties),.sl (List.map af.tv v0.Arcs),.sl (List.map (TV.int .i64) v0.Leaders),.sl (List.map TV.str v0.Locks),.int .i64 v0.Start,.int .i64 v0.Delta]⟩) (hi0 : o0 < τ.next) (Q : TEx → au) (hQ0 : ∀ v : Unit,r = (.ex v) → ∀ (fr : TF) (tk2 : TK) (τ2 : TH),lkp fr 1 = .ptr o0 0 → tk2.take 0 = [] → τ2.cut τ.next = τ → Q (.exit 0) fr tk2 τ2) (hQ1 : ∀ v : Bool,r = (.rt v) → ∀ (tk2 : TK) (τ2 : TH),τ2.cut τ.next = τ → Q .ret [(2,.bool v)] tk2 τ2) ,tW G (.loop [1,3,4] dy) Q [(1,.ptr o0 0),(3,.int .i64 v1),(4,.int .i64 v2)] [] τ
theorem zarr (v0 : aa) (v1 : Int) (v2 : Int) (r : LX (Unit) (Bool)) (h : gc v0 v1 v2 = some r) : rx v0 v1 v2 r := by
  refine cy (f := fun st => d8 v0 v1 st) (P := fun st r => ∀ (v2 : Int),v2 = st → rx v0 v1 v2 r) ?_ h v2 rfl
  clear h r v2
  intro st o h r ih v2 hst τ o0  hl ha0 hi0 Q hQ0 hQ1
  subst hst
  have h : d8 v0 v1 v2 = some o := h
  unfold d8 at h
  refine jm fun LQ hn hr he => ?_
  by_cases c1 : v2 < ((v0.Arcs.length : Nat) : Int)
  · rw [if_pos c1] at h
    obtain ⟨y2,hy2,h⟩ := ob h
    have f3 := a9 hy2
    have f3a := (f3.2.2 af.tv).1
    have f3b := (f3.2.2 af.tv).2
    try simp only [CL,MC,Int.reduceToNat] at f3 f3a f3b
    by_cases c4 : y2.From < (0 : Int)
    · rw [if_pos c4] at h
      injection h with h; subst h
      obtain rfl : _ = r := ih
      simp -implicitDefEqProofs only [dy,dh,TT,Ic.t,Ic.ci,Nat.reduceEqDiff,reduceIte,Nat.reduceAdd,Nat.reduceLT,reduceCtorEq,Int.reduceToNat,hl,ha0,hi0,he,hr,c1,f3.1,f3.2.1,f3a,f3b,c4,CL,LTN]
      exact hQ1 false rfl  _ _  (by first | exact bp (Nat.le_refl _) | (simp -implicitDefEqProofs only [TT,Ic.t,Ic.ci,Nat.reduceEqDiff,reduceIte,Nat.reduceAdd,Nat.reduceLT,reduceCtorEq,Int.reduceToNat,hl,ha0,hi0,c1,f3.1,f3.2.1,f3a,f3b,c4,CL,LTN]))
    rw [if_neg c4] at h
    by_cases c5 : v1 ≤ y2.From
    · rw [if_pos c5] at h
      injection h with h; subst h
      obtain rfl : _ = r := ih
      simp -implicitDefEqProofs only [dy,dh,TT,Ic.t,Ic.ci,Nat.reduceEqDiff,reduceIte,Nat.reduceAdd,Nat.reduceLT,reduceCtorEq,Int.reduceToNat,hl,ha0,hi0,he,hr,c1,f3.1,f3.2.1,f3a,f3b,c4,c5,CL,LTN]
      exact hQ1 false rfl  _ _  (by first | exact bp (Nat.le_refl _) | (simp -implicitDefEqProofs only [TT,Ic.t,Ic.ci,Nat.reduceEqDiff,reduceIte,Nat.reduceAdd,Nat.reduceLT,reduceCtorEq,Int.reduceToNat,hl,ha0,hi0,c1,f3.1,f3.2.1,f3a,f3b,c4,c5,CL,LTN]))
    rw [if_neg c5] at h
    by_cases c6 : y2.To < (0 : Int)
    · rw [if_pos c6] at h
      injection h with h; subst h
      obtain rfl : _ = r := ih
      simp -implicitDefEqProofs only [dy,dh,TT,Ic.t,Ic.ci,Nat.reduceEqDiff,reduceIte,Nat.reduceAdd,Nat.reduceLT,reduceCtorEq,Int.reduceToNat,hl,ha0,hi0,he,hr,c1,f3.1,f3.2.1,f3a,f3b,c4,c5,c6,CL,LTN]
      exact hQ1 false rfl  _ _  (by first | exact bp (Nat.le_refl _) | (simp -implicitDefEqProofs only [TT,Ic.t,Ic.ci,Nat.reduceEqDiff,reduceIte,Nat.reduceAdd,Nat.reduceLT,reduceCtorEq,Int.reduceToNat,hl,ha0,hi0,c1,f3.1,f3.2.1,f3a,f3b,c4,c5,c6,CL,LTN]))
    rw [if_neg c6] at h
    by_cases c7 : v1 ≤ y2.To
    · rw [if_pos c7] at h
      injection h with h; subst h
      obtain rfl : _ = r := ih
      simp -implicitDefEqProofs only [dy,dh,TT,Ic.t,Ic.ci,Nat.reduceEqDiff,reduceIte,Nat.reduceAdd,Nat.reduceLT,reduceCtorEq,Int.reduceToNat,hl,ha0,hi0,he,hr,c1,f3.1,f3.2.1,f3a,f3b,c4,c5,c6,c7,CL,LTN]
      exact hQ1 false rfl  _ _  (by first | exact bp (Nat.le_refl _) | (simp -implicitDefEqProofs only [TT,Ic.t,Ic.ci,Nat.reduceEqDiff,reduceIte,Nat.reduceAdd,Nat.reduceLT,reduceCtorEq,Int.reduceToNat,hl,ha0,hi0,c1,f3.1,f3.2.1,f3a,f3b,c4,c5,c6,c7,CL,LTN]))
    rw [if_neg c7] at h
    by_cases c8 : y2.From = y2.To
    · rw [if_pos c8] at h
      injection h with h; subst h
      obtain rfl : _ = r := ih
      simp -implicitDefEqProofs only [dy,dh,TT,Ic.t,Ic.ci,Nat.reduceEqDiff,reduceIte,Nat.reduceAdd,Nat.reduceLT,reduceCtorEq,Int.reduceToNat,hl,ha0,hi0,he,hr,c1,f3.1,f3.2.1,f3a,f3b,c4,c5,c6,c7,eq_true c8,CL,LTN]
      exact hQ1 false rfl  _ _  (by first | exact bp (Nat.le_refl _) | (simp -implicitDefEqProofs only [TT,Ic.t,Ic.ci,Nat.reduceEqDiff,reduceIte,Nat.reduceAdd,Nat.reduceLT,reduceCtorEq,Int.reduceToNat,hl,ha0,hi0,c1,f3.1,f3.2.1,f3a,f3b,c4,c5,c6,c7,eq_true c8,CL,LTN]))
    rw [if_neg c8] at h
    by_cases c9 : y2.Ledger < (0 : Int)
    · rw [if_pos c9] at h
      injection h with h; subst h
      obtain rfl : _ = r := ih
      simp -implicitDefEqProofs only [dy,dh,TT,Ic.t,Ic.ci,Nat.reduceEqDiff,reduceIte,Nat.reduceAdd,Nat.reduceLT,reduceCtorEq,Int.reduceToNat,hl,ha0,hi0,he,hr,c1,f3.1,f3.2.1,f3a,f3b,c4,c5,c6,c7,c8,c9,CL,LTN]
      exact hQ1 false rfl  _ _  (by first | exact bp (Nat.le_refl _) | (simp -implicitDefEqProofs only [TT,Ic.t,Ic.ci,Nat.reduceEqDiff,reduceIte,Nat.reduceAdd,Nat.reduceLT,reduceCtorEq,Int.reduceToNat,hl,ha0,hi0,c1,f3.1,f3.2.1,f3a,f3b,c4,c5,c6,c7,c8,c9,CL,LTN]))
    rw [if_neg c9] at h
    by_cases c10 : (4 : Int) ≤ y2.Ledger
    · rw [if_pos c10] at h
      injection h with h; subst h
      obtain rfl : _ = r := ih
      simp -implicitDefEqProofs only [dy,dh,TT,Ic.t,Ic.ci,Nat.reduceEqDiff,reduceIte,Nat.reduceAdd,Nat.reduceLT,reduceCtorEq,Int.reduceToNat,hl,ha0,hi0,he,hr,c1,f3.1,f3.2.1,f3a,f3b,c4,c5,c6,c7,c8,c9,c10,CL,LTN]
      exact hQ1 false rfl  _ _  (by first | exact bp (Nat.le_refl _) | (simp -implicitDefEqProofs only [TT,Ic.t,Ic.ci,Nat.reduceEqDiff,reduceIte,Nat.reduceAdd,Nat.reduceLT,reduceCtorEq,Int.reduceToNat,hl,ha0,hi0,c1,f3.1,f3.2.1,f3a,f3b,c4,c5,c6,c7,c8,c9,c10,CL,LTN]))
    rw [if_neg c10] at h
    obtain ⟨y11,hy11,h⟩ := ob h
    have k12 := zaeg y2.Asset _ hy11
    try simp only [CL,MC,Int.reduceToNat] at k12
    by_cases c13 : y11 = true
    · rw [if_pos c13] at h
      by_cases c14 : y2.Amount < (1 : Int)
      · rw [if_pos c14] at h
        injection h with h; subst h
        obtain rfl : _ = r := ih
        simp -implicitDefEqProofs only [dy,dh,TT,Ic.t,Ic.ci,Nat.reduceEqDiff,reduceIte,Nat.reduceAdd,Nat.reduceLT,reduceCtorEq,Int.reduceToNat,hl,ha0,hi0,he,hr,c1,f3.1,f3.2.1,f3a,f3b,c4,c5,c6,c7,c8,c9,c10,k12,c13,c14,CL,LTN]
        exact hQ1 false rfl  _ _  (by first | exact bp (Nat.le_refl _) | (simp -implicitDefEqProofs only [TT,Ic.t,Ic.ci,Nat.reduceEqDiff,reduceIte,Nat.reduceAdd,Nat.reduceLT,reduceCtorEq,Int.reduceToNat,hl,ha0,hi0,c1,f3.1,f3.2.1,f3a,f3b,c4,c5,c6,c7,c8,c9,c10,k12,c13,c14,CL,LTN]))
      rw [if_neg c14] at h
      by_cases c15 : (1125899906842624 : Int) < y2.Amount
      · rw [if_pos c15] at h
        injection h with h; subst h
        obtain rfl : _ = r := ih
        simp -implicitDefEqProofs only [dy,dh,TT,Ic.t,Ic.ci,Nat.reduceEqDiff,reduceIte,Nat.reduceAdd,Nat.reduceLT,reduceCtorEq,Int.reduceToNat,hl,ha0,hi0,he,hr,c1,f3.1,f3.2.1,f3a,f3b,c4,c5,c6,c7,c8,c9,c10,k12,c13,c14,c15,CL,LTN]
        exact hQ1 false rfl  _ _  (by first | exact bp (Nat.le_refl _) | (simp -implicitDefEqProofs only [TT,Ic.t,Ic.ci,Nat.reduceEqDiff,reduceIte,Nat.reduceAdd,Nat.reduceLT,reduceCtorEq,Int.reduceToNat,hl,ha0,hi0,c1,f3.1,f3.2.1,f3a,f3b,c4,c5,c6,c7,c8,c9,c10,k12,c13,c14,c15,CL,LTN]))
      rw [if_neg c15] at h
      obtain ⟨y16,hy16,h⟩ := ob h
      simp -implicitDefEqProofs only [dy,dh,TT,Ic.t,Ic.ci,Nat.reduceEqDiff,reduceIte,Nat.reduceAdd,Nat.reduceLT,reduceCtorEq,Int.reduceToNat,hl,ha0,hi0,c1,f3.1,f3.2.1,f3a,f3b,c4,c5,c6,c7,c8,c9,c10,k12,c13,c14,c15,CL,LTN]
      have Sy16 := zarq v0 v1 v2 (⟨y2.From,y2.To,y2.Ledger,y2.Asset,y2.Amount⟩ : af) (0 : Int) y16 hy16
      unfold ms at Sy16
      refine Sy16 _ o0 τ.next (by first | assumption | omega | (simp only [ag,aj,ah,av]; omega)) (by simp -implicitDefEqProofs only [TT,Ic.t,Ic.ci,Nat.reduceEqDiff,reduceIte,Nat.reduceAdd,Nat.reduceLT,reduceCtorEq,Int.reduceToNat,hl,ha0,hi0,c1,f3.1,f3.2.1,f3a,f3b,c4,c5,c6,c7,c8,c9,c10,k12,c13,c14,c15,CL,LTN]) (by first | assumption | omega | (simp only [ag,aj,ah,av]; omega)) (by simp -implicitDefEqProofs only [TT,Ic.t,Ic.ci,Nat.reduceEqDiff,reduceIte,Nat.reduceAdd,Nat.reduceLT,reduceCtorEq,Int.reduceToNat,hl,ha0,hi0,c1,f3.1,f3.2.1,f3a,f3b,c4,c5,c6,c7,c8,c9,c10,k12,c13,c14,c15,CL,LTN]) (by first | assumption | omega | (simp only [ag,aj,ah,av]; omega)) _ ?_ ?_
      · intro w17 e frq18 tkq18 τq18 g1q18 g3q18 g4q18 htq18 hcq18
        subst e
        simp only at h
        have hcq18 := bq (n := τ.next + 1) hcq18 (by first | omega | (simp only [ag,aj]; omega))
        try simp only [List.take_succ_cons,List.take_zero,List.take_nil,CL] at htq18
        try simp -implicitDefEqProofs only [TT,Ic.t,Ic.ci,Nat.reduceEqDiff,reduceIte,Nat.reduceAdd,Nat.reduceLT,reduceCtorEq,Int.reduceToNat,hl,ha0,hi0,c1,f3.1,f3.2.1,f3a,f3b,c4,c5,c6,c7,c8,c9,c10,k12,c13,c14,c15,CL,LTN] at hcq18
        injection h with h; subst h
        have ih := ih (IntKind.i64.wrap (v2 + (1 : Int))) rfl
        unfold rx at ih
        simp -implicitDefEqProofs only [dy,dh,TT,Ic.t,Ic.ci,Nat.reduceEqDiff,reduceIte,Nat.reduceAdd,Nat.reduceLT,reduceCtorEq,Int.reduceToNat,hl,ha0,hi0,c1,f3.1,f3.2.1,f3a,f3b,c4,c5,c6,c7,c8,c9,c10,k12,c13,c14,c15,g1q18,g3q18,g4q18,htq18,hcq18,CL,LTN]
        rw [hn]
        simp -implicitDefEqProofs only [TT,Ic.t,Ic.ci,Nat.reduceEqDiff,reduceIte,Nat.reduceAdd,Nat.reduceLT,reduceCtorEq,Int.reduceToNat,hl,ha0,hi0,c1,f3.1,f3.2.1,f3a,f3b,c4,c5,c6,c7,c8,c9,c10,k12,c13,c14,c15,g1q18,g3q18,g4q18,htq18,hcq18,CL,LTN]
        exact ih  τ o0   (by first | assumption | (simp only [ag,ah]; assumption)) (by simp -implicitDefEqProofs only [TT,Ic.t,Ic.ci,Nat.reduceEqDiff,reduceIte,Nat.reduceAdd,Nat.reduceLT,reduceCtorEq,Int.reduceToNat,hl,ha0,hi0,c1,f3.1,f3.2.1,f3a,f3b,c4,c5,c6,c7,c8,c9,c10,k12,c13,c14,c15,g1q18,g3q18,g4q18,htq18,hcq18,CL,LTN]) (by first | assumption | (simp only [ag,ah]; assumption)) Q hQ0 hQ1
      intro w19 e tkq20 τq20 hcq20
      subst e
      simp only at h
      have hcq20 := bq (n := τ.next) hcq20 (by first | omega | (simp only [ag,aj]; omega))
      try simp -implicitDefEqProofs only [TT,Ic.t,Ic.ci,Nat.reduceEqDiff,reduceIte,Nat.reduceAdd,Nat.reduceLT,reduceCtorEq,Int.reduceToNat,hl,ha0,hi0,c1,f3.1,f3.2.1,f3a,f3b,c4,c5,c6,c7,c8,c9,c10,k12,c13,c14,c15,CL,LTN] at hcq20
      injection h with h; subst h
      obtain rfl : _ = r := ih
      simp -implicitDefEqProofs only [dy,dh,TT,Ic.t,Ic.ci,Nat.reduceEqDiff,reduceIte,Nat.reduceAdd,Nat.reduceLT,reduceCtorEq,Int.reduceToNat,hl,ha0,hi0,he,hr,c1,f3.1,f3.2.1,f3a,f3b,c4,c5,c6,c7,c8,c9,c10,k12,c13,c14,c15,hcq20,CL,LTN]
      exact hQ1 w19 rfl  _ _  (by first | exact bp (Nat.le_refl _) | (simp -implicitDefEqProofs only [TT,Ic.t,Ic.ci,Nat.reduceEqDiff,reduceIte,Nat.reduceAdd,Nat.reduceLT,reduceCtorEq,Int.reduceToNat,hl,ha0,hi0,c1,f3.1,f3.2.1,f3a,f3b,c4,c5,c6,c7,c8,c9,c10,k12,c13,c14,c15,hcq20,CL,LTN]))
    rw [if_neg c13] at h
    have c13 := Bool.eq_false_iff.2 c13
    injection h with h; subst h
    obtain rfl : _ = r := ih
    simp -implicitDefEqProofs only [dy,dh,TT,Ic.t,Ic.ci,Nat.reduceEqDiff,reduceIte,Nat.reduceAdd,Nat.reduceLT,reduceCtorEq,Int.reduceToNat,hl,ha0,hi0,he,hr,c1,f3.1,f3.2.1,f3a,f3b,c4,c5,c6,c7,c8,c9,c10,k12,c13,CL,LTN]
    exact hQ1 false rfl  _ _  (by first | exact bp (Nat.le_refl _) | (simp -implicitDefEqProofs only [TT,Ic.t,Ic.ci,Nat.reduceEqDiff,reduceIte,Nat.reduceAdd,Nat.reduceLT,reduceCtorEq,Int.reduceToNat,hl,ha0,hi0,c1,f3.1,f3.2.1,f3a,f3b,c4,c5,c6,c7,c8,c9,c10,k12,c13,CL,LTN]))
  rw [if_neg c1] at h
  injection h with h; subst h
  obtain rfl : _ = r := ih
  simp -implicitDefEqProofs only [dy,dh,TT,Ic.t,Ic.ci,Nat.reduceEqDiff,reduceIte,Nat.reduceAdd,Nat.reduceLT,reduceCtorEq,Int.reduceToNat,hl,ha0,hi0,he,hr,c1,CL,LTN]
  exact hQ0 () rfl  _ _ _  (by first | rfl | (simp -implicitDefEqProofs only [TT,Ic.t,Ic.ci,Nat.reduceEqDiff,reduceIte,Nat.reduceAdd,Nat.reduceLT,reduceCtorEq,Int.reduceToNat,hl,ha0,hi0,c1,CL,LTN])) (by first | rfl | (simp -implicitDefEqProofs only [TT,Ic.t,Ic.ci,Nat.reduceEqDiff,reduceIte,Nat.reduceAdd,Nat.reduceLT,reduceCtorEq,Int.reduceToNat,hl,ha0,hi0,c1,CL,LTN])) (by first | exact bp (Nat.le_refl _) | (simp -implicitDefEqProofs only [TT,Ic.t,Ic.ci,Nat.reduceEqDiff,reduceIte,Nat.reduceAdd,Nat.reduceLT,reduceCtorEq,Int.reduceToNat,hl,ha0,hi0,c1,CL,LTN]))
noncomputable def su (p1 : aa) : Option Bool :=
 gc p1 ((p1.Parties.length : Nat) : Int) (0 : Int) >>= fun y1 =>
 match y1 with
 | .ex w2 =>
  if (1 : Int) ≤ ((p1.Arcs.length : Nat) : Int) then
   some (decide (((p1.Arcs.length : Nat) : Int) ≤ (12 : Int)))
  else
  some false
 | .rt w4 =>
  some w4
theorem zan1 (p1 : aa) (r : Bool) (h : su p1 = some r) (τ : TH) (hl : τ.lock ≤ τ.next) : Ru G uy [.agg [.str p1.ID,.sl (List.map ac.tv p1.Parties),.sl (List.map af.tv p1.Arcs),.sl (List.map (TV.int .i64) p1.Leaders),.sl (List.map TV.str p1.Locks),.int .i64 p1.Start,.int .i64 p1.Delta]] τ (.bool r) τ := by
  refine jk fun K hK => ?_
  rw [b7 g_R04_arcs (Nat.le_of_ble_eq_true rfl)]
  unfold su at h
  obtain ⟨y1,hy1,h⟩ := ob h
  simp -implicitDefEqProofs only [dh,TT,Ic.t,Ic.ci,Nat.reduceEqDiff,reduceIte,Nat.reduceAdd,Nat.reduceLT,reduceCtorEq,Int.reduceToNat,hl,CL,LTN]
  have Sy1 := zarr p1 ((p1.Parties.length : Nat) : Int) (0 : Int) y1 hy1
  unfold rx at Sy1
  refine Sy1 _ τ.next (by first | assumption | omega | (simp only [ag,aj,ah,av]; omega)) (by simp -implicitDefEqProofs only [TT,Ic.t,Ic.ci,Nat.reduceEqDiff,reduceIte,Nat.reduceAdd,Nat.reduceLT,reduceCtorEq,Int.reduceToNat,hl,CL,LTN]) (by first | assumption | omega | (simp only [ag,aj,ah,av]; omega)) _ ?_ ?_
  · intro w2 e frq3 tkq3 τq3 g1q3 htq3 hcq3
    subst e
    simp only at h
    have hcq3 := bq (n := τ.next + 1) hcq3 (by first | omega | (simp only [ag,aj]; omega))
    try simp only [List.take_succ_cons,List.take_zero,List.take_nil,CL] at htq3
    try simp -implicitDefEqProofs only [TT,Ic.t,Ic.ci,Nat.reduceEqDiff,reduceIte,Nat.reduceAdd,Nat.reduceLT,reduceCtorEq,Int.reduceToNat,hl,CL,LTN] at hcq3
    by_cases c6 : (1 : Int) ≤ ((p1.Arcs.length : Nat) : Int)
    · rw [if_pos c6] at h
      injection h with h; subst h
      simp -implicitDefEqProofs only [dh,TT,Ic.t,Ic.ci,Nat.reduceEqDiff,reduceIte,Nat.reduceAdd,Nat.reduceLT,reduceCtorEq,Int.reduceToNat,hl,g1q3,htq3,hcq3,c6,CL,LTN]
      exact hK
    rw [if_neg c6] at h
    injection h with h; subst h
    simp -implicitDefEqProofs only [dh,TT,Ic.t,Ic.ci,Nat.reduceEqDiff,reduceIte,Nat.reduceAdd,Nat.reduceLT,reduceCtorEq,Int.reduceToNat,hl,g1q3,htq3,hcq3,c6,CL,LTN]
    exact hK
  intro w4 e tkq5 τq5 hcq5
  subst e
  simp only at h
  have hcq5 := bq (n := τ.next) hcq5 (by first | omega | (simp only [ag,aj]; omega))
  try simp -implicitDefEqProofs only [TT,Ic.t,Ic.ci,Nat.reduceEqDiff,reduceIte,Nat.reduceAdd,Nat.reduceLT,reduceCtorEq,Int.reduceToNat,hl,CL,LTN] at hcq5
  injection h with h; subst h
  simp -implicitDefEqProofs only [dh,TT,Ic.t,Ic.ci,Nat.reduceEqDiff,reduceIte,Nat.reduceAdd,Nat.reduceLT,reduceCtorEq,Int.reduceToNat,hl,hcq5,CL,LTN]
  exact hK
theorem za0t (p1 : aa) (r : Bool) (h : su p1 = some r) (lk : Bool) (d : Option Nat) (K : au) (fr : TF) (tk : TK) (τ : TH) (hl : τ.lock ≤ τ.next) : fv G lk uy [.agg [.str p1.ID,.sl (List.map ac.tv p1.Parties),.sl (List.map af.tv p1.Arcs),.sl (List.map (TV.int .i64) p1.Leaders),.sl (List.map TV.str p1.Locks),.int .i64 p1.Start,.int .i64 p1.Delta]] d K fr tk τ = K (fu fr d (.bool r)) tk τ :=
  aw (zan1 p1 r h τ  hl) (zan1 p1 r h (τ.locked τ.next)  (Nat.le_refl _) ) (by simp -implicitDefEqProofs only [TT,Ic.t,Ic.ci,Nat.reduceEqDiff,reduceIte,Nat.reduceAdd,Nat.reduceLT,reduceCtorEq,Int.reduceToNat,hl,CL,LTN])
noncomputable def mt (p1 : aa) : Option Bool :=
 qv p1.ID >>= fun y1 =>
 if y1 = true then
  kc p1 >>= fun y4 =>
  if y4 = true then
   kb p1 >>= fun y7 =>
   if y7 = true then
    su p1 >>= fun y10 =>
    if y10 = true then
     if (0 : Int) ≤ p1.Start then
      if p1.Start ≤ (1099511627776 : Int) then
       if (1 : Int) ≤ p1.Delta then
        some (decide (p1.Delta ≤ (1048576 : Int)))
       else
       some false
      else
      some false
     else
     some false
    else
    some false
   else
   some false
  else
  some false
 else
 some false
theorem zak1 (p1 : aa) (r : Bool) (h : mt p1 = some r) (τ : TH) (hl : τ.lock ≤ τ.next) : Ru G nd [.agg [.str p1.ID,.sl (List.map ac.tv p1.Parties),.sl (List.map af.tv p1.Arcs),.sl (List.map (TV.int .i64) p1.Leaders),.sl (List.map TV.str p1.Locks),.int .i64 p1.Start,.int .i64 p1.Delta]] τ (.bool r) τ := by
  refine jk fun K hK => ?_
  rw [b7 za14 (Nat.le_of_ble_eq_true rfl)]
  unfold mt at h
  obtain ⟨y1,hy1,h⟩ := ob h
  have k2 := zaeg p1.ID _ hy1
  try simp only [CL,MC,Int.reduceToNat] at k2
  by_cases c3 : y1 = true
  · rw [if_pos c3] at h
    obtain ⟨y4,hy4,h⟩ := ob h
    have k5 := zarp p1 _ hy4
    try simp only [CL,MC,Int.reduceToNat] at k5
    by_cases c6 : y4 = true
    · rw [if_pos c6] at h
      obtain ⟨y7,hy7,h⟩ := ob h
      have k8 := zaro p1 _ hy7
      try simp only [CL,MC,Int.reduceToNat] at k8
      by_cases c9 : y7 = true
      · rw [if_pos c9] at h
        obtain ⟨y10,hy10,h⟩ := ob h
        have k11 := za0t p1 _ hy10
        try simp only [CL,MC,Int.reduceToNat] at k11
        by_cases c12 : y10 = true
        · rw [if_pos c12] at h
          by_cases c13 : (0 : Int) ≤ p1.Start
          · rw [if_pos c13] at h
            by_cases c14 : p1.Start ≤ (1099511627776 : Int)
            · rw [if_pos c14] at h
              by_cases c15 : (1 : Int) ≤ p1.Delta
              · rw [if_pos c15] at h
                injection h with h; subst h
                simp -implicitDefEqProofs only [mr,TT,Ic.t,Ic.ci,Nat.reduceEqDiff,reduceIte,Nat.reduceAdd,Nat.reduceLT,reduceCtorEq,Int.reduceToNat,hl,k2,c3,k5,c6,k8,c9,k11,c12,c13,c14,c15,CL,LTN]
                exact hK
              rw [if_neg c15] at h
              injection h with h; subst h
              simp -implicitDefEqProofs only [mr,TT,Ic.t,Ic.ci,Nat.reduceEqDiff,reduceIte,Nat.reduceAdd,Nat.reduceLT,reduceCtorEq,Int.reduceToNat,hl,k2,c3,k5,c6,k8,c9,k11,c12,c13,c14,c15,CL,LTN]
              exact hK
            rw [if_neg c14] at h
            injection h with h; subst h
            simp -implicitDefEqProofs only [mr,TT,Ic.t,Ic.ci,Nat.reduceEqDiff,reduceIte,Nat.reduceAdd,Nat.reduceLT,reduceCtorEq,Int.reduceToNat,hl,k2,c3,k5,c6,k8,c9,k11,c12,c13,c14,CL,LTN]
            exact hK
          rw [if_neg c13] at h
          injection h with h; subst h
          simp -implicitDefEqProofs only [mr,TT,Ic.t,Ic.ci,Nat.reduceEqDiff,reduceIte,Nat.reduceAdd,Nat.reduceLT,reduceCtorEq,Int.reduceToNat,hl,k2,c3,k5,c6,k8,c9,k11,c12,c13,CL,LTN]
          exact hK
        rw [if_neg c12] at h
        have c12 := Bool.eq_false_iff.2 c12
        injection h with h; subst h
        simp -implicitDefEqProofs only [mr,TT,Ic.t,Ic.ci,Nat.reduceEqDiff,reduceIte,Nat.reduceAdd,Nat.reduceLT,reduceCtorEq,Int.reduceToNat,hl,k2,c3,k5,c6,k8,c9,k11,c12,CL,LTN]
        exact hK
      rw [if_neg c9] at h
      have c9 := Bool.eq_false_iff.2 c9
      injection h with h; subst h
      simp -implicitDefEqProofs only [mr,TT,Ic.t,Ic.ci,Nat.reduceEqDiff,reduceIte,Nat.reduceAdd,Nat.reduceLT,reduceCtorEq,Int.reduceToNat,hl,k2,c3,k5,c6,k8,c9,CL,LTN]
      exact hK
    rw [if_neg c6] at h
    have c6 := Bool.eq_false_iff.2 c6
    injection h with h; subst h
    simp -implicitDefEqProofs only [mr,TT,Ic.t,Ic.ci,Nat.reduceEqDiff,reduceIte,Nat.reduceAdd,Nat.reduceLT,reduceCtorEq,Int.reduceToNat,hl,k2,c3,k5,c6,CL,LTN]
    exact hK
  rw [if_neg c3] at h
  have c3 := Bool.eq_false_iff.2 c3
  injection h with h; subst h
  simp -implicitDefEqProofs only [mr,TT,Ic.t,Ic.ci,Nat.reduceEqDiff,reduceIte,Nat.reduceAdd,Nat.reduceLT,reduceCtorEq,Int.reduceToNat,hl,k2,c3,CL,LTN]
  exact hK
theorem zaai (p1 : aa) (r : Bool) (h : mt p1 = some r) (lk : Bool) (d : Option Nat) (K : au) (fr : TF) (tk : TK) (τ : TH) (hl : τ.lock ≤ τ.next) : fv G lk nd [.agg [.str p1.ID,.sl (List.map ac.tv p1.Parties),.sl (List.map af.tv p1.Arcs),.sl (List.map (TV.int .i64) p1.Leaders),.sl (List.map TV.str p1.Locks),.int .i64 p1.Start,.int .i64 p1.Delta]] d K fr tk τ = K (fu fr d (.bool r)) tk τ :=
  aw (zak1 p1 r h τ  hl) (zak1 p1 r h (τ.locked τ.next)  (Nat.le_refl _) ) (by simp -implicitDefEqProofs only [TT,Ic.t,Ic.ci,Nat.reduceEqDiff,reduceIte,Nat.reduceAdd,Nat.reduceLT,reduceCtorEq,Int.reduceToNat,hl,CL,LTN])
noncomputable def ij (p1 : aa) (p2 : Int) : Option Int :=
 mt p1 >>= fun y1 =>
 if y1 = true then
  some (IntKind.i64.wrap (p1.Start + (IntKind.i64.wrap ((IntKind.i64.wrap ((IntKind.i64.wrap (((p1.Parties.length : Nat) : Int) + (if ((p1.Parties.length : Nat) : Int) < (if p2 < (1 : Int) then (1 : Int) else p2) then ((p1.Parties.length : Nat) : Int) else (if p2 < (1 : Int) then (1 : Int) else p2)))) - (1 : Int))) * p1.Delta)))) >>= fun x4 =>
  some x4
 else
 some (0 : Int)
theorem zab1 (p1 : aa) (p2 : Int) (r : Int) (h : ij p1 p2 = some r) (τ : TH) (hl : τ.lock ≤ τ.next) : Ru G il [.agg [.str p1.ID,.sl (List.map ac.tv p1.Parties),.sl (List.map af.tv p1.Arcs),.sl (List.map (TV.int .i64) p1.Leaders),.sl (List.map TV.str p1.Locks),.int .i64 p1.Start,.int .i64 p1.Delta],.int .i64 p2] τ (.int .i64 r) τ := by
  refine jk fun K hK => ?_
  rw [b7 zar9 (Nat.le_of_ble_eq_true rfl)]
  unfold ij at h
  obtain ⟨y1,hy1,h⟩ := ob h
  have k2 := zaai p1 _ hy1
  try simp only [CL,MC,Int.reduceToNat] at k2
  by_cases c3 : y1 = true
  · rw [if_pos c3] at h
    obtain ⟨x4,hx4,h⟩ := ob h
    have f5 := Option.some.inj hx4
    injection h with h; subst h
    simp -implicitDefEqProofs only [zag5,TT,Ic.t,Ic.ci,Nat.reduceEqDiff,reduceIte,Nat.reduceAdd,Nat.reduceLT,reduceCtorEq,Int.reduceToNat,hl,k2,c3,f5,CL,LTN]
    exact hK
  rw [if_neg c3] at h
  have c3 := Bool.eq_false_iff.2 c3
  injection h with h; subst h
  simp -implicitDefEqProofs only [zag5,TT,Ic.t,Ic.ci,Nat.reduceEqDiff,reduceIte,Nat.reduceAdd,Nat.reduceLT,reduceCtorEq,Int.reduceToNat,hl,k2,c3,CL,LTN]
  exact hK
theorem t9 (p1 : aa) (p2 : Int) (r : Int) (h : ij p1 p2 = some r) (lk : Bool) (d : Option Nat) (K : au) (fr : TF) (tk : TK) (τ : TH) (hl : τ.lock ≤ τ.next) : fv G lk il [.agg [.str p1.ID,.sl (List.map ac.tv p1.Parties),.sl (List.map af.tv p1.Arcs),.sl (List.map (TV.int .i64) p1.Leaders),.sl (List.map TV.str p1.Locks),.int .i64 p1.Start,.int .i64 p1.Delta],.int .i64 p2] d K fr tk τ = K (fu fr d (.int .i64 r)) tk τ :=
  aw (zab1 p1 p2 r h τ  hl) (zab1 p1 p2 r h (τ.locked τ.next)  (Nat.le_refl _) ) (by simp -implicitDefEqProofs only [TT,Ic.t,Ic.ci,Nat.reduceEqDiff,reduceIte,Nat.reduceAdd,Nat.reduceLT,reduceCtorEq,Int.reduceToNat,hl,CL,LTN])
noncomputable def ph (p1 : aa) : Option Int :=
 fx p1 ((p1.Parties.length : Nat) : Int) >>= fun y1 =>
 some y1
theorem zah9 (p1 : aa) (r : Int) (h : ph p1 = some r) (τ : TH) (hl : τ.lock ≤ τ.next) : Ru G qi [.agg [.str p1.ID,.sl (List.map ac.tv p1.Parties),.sl (List.map af.tv p1.Arcs),.sl (List.map (TV.int .i64) p1.Leaders),.sl (List.map TV.str p1.Locks),.int .i64 p1.Start,.int .i64 p1.Delta]] τ (.int .i64 r) τ := by
  refine jk fun K hK => ?_
  rw [b7 za11 (Nat.le_of_ble_eq_true rfl)]
  unfold ph at h
  obtain ⟨y1,hy1,h⟩ := ob h
  have k2 := ng p1 ((p1.Parties.length : Nat) : Int) _ hy1
  try simp only [CL,MC,Int.reduceToNat] at k2
  injection h with h; subst h
  simp -implicitDefEqProofs only [za2u,TT,Ic.t,Ic.ci,Nat.reduceEqDiff,reduceIte,Nat.reduceAdd,Nat.reduceLT,reduceCtorEq,Int.reduceToNat,hl,k2,CL,LTN]
  exact hK
theorem zaia (p1 : aa) (r : Int) (h : ph p1 = some r) (lk : Bool) (d : Option Nat) (K : au) (fr : TF) (tk : TK) (τ : TH) (hl : τ.lock ≤ τ.next) : fv G lk qi [.agg [.str p1.ID,.sl (List.map ac.tv p1.Parties),.sl (List.map af.tv p1.Arcs),.sl (List.map (TV.int .i64) p1.Leaders),.sl (List.map TV.str p1.Locks),.int .i64 p1.Start,.int .i64 p1.Delta]] d K fr tk τ = K (fu fr d (.int .i64 r)) tk τ :=
  aw (zah9 p1 r h τ  hl) (zah9 p1 r h (τ.locked τ.next)  (Nat.le_refl _) ) (by simp -implicitDefEqProofs only [TT,Ic.t,Ic.ci,Nat.reduceEqDiff,reduceIte,Nat.reduceAdd,Nat.reduceLT,reduceCtorEq,Int.reduceToNat,hl,CL,LTN])
noncomputable def uu (p1 : aa) : Option Int :=
 ij p1 ((p1.Parties.length : Nat) : Int) >>= fun y1 =>
 some y1
theorem zan0 (p1 : aa) (r : Int) (h : uu p1 = some r) (τ : TH) (hl : τ.lock ≤ τ.next) : Ru G ux [.agg [.str p1.ID,.sl (List.map ac.tv p1.Parties),.sl (List.map af.tv p1.Arcs),.sl (List.map (TV.int .i64) p1.Leaders),.sl (List.map TV.str p1.Locks),.int .i64 p1.Start,.int .i64 p1.Delta]] τ (.int .i64 r) τ := by
  refine jk fun K hK => ?_
  rw [b7 g_R06_Last (Nat.le_of_ble_eq_true rfl)]
  unfold uu at h
  obtain ⟨y1,hy1,h⟩ := ob h
  have k2 := t9 p1 ((p1.Parties.length : Nat) : Int) _ hy1
  try simp only [CL,MC,Int.reduceToNat] at k2
  injection h with h; subst h
  simp -implicitDefEqProofs only [U_R06_Last,TT,Ic.t,Ic.ci,Nat.reduceEqDiff,reduceIte,Nat.reduceAdd,Nat.reduceLT,reduceCtorEq,Int.reduceToNat,hl,k2,CL,LTN]
  exact hK
theorem za0s (p1 : aa) (r : Int) (h : uu p1 = some r) (lk : Bool) (d : Option Nat) (K : au) (fr : TF) (tk : TK) (τ : TH) (hl : τ.lock ≤ τ.next) : fv G lk ux [.agg [.str p1.ID,.sl (List.map ac.tv p1.Parties),.sl (List.map af.tv p1.Arcs),.sl (List.map (TV.int .i64) p1.Leaders),.sl (List.map TV.str p1.Locks),.int .i64 p1.Start,.int .i64 p1.Delta]] d K fr tk τ = K (fu fr d (.int .i64 r)) tk τ :=
  aw (zan0 p1 r h τ  hl) (zan0 p1 r h (τ.locked τ.next)  (Nat.le_refl _) ) (by simp -implicitDefEqProofs only [TT,Ic.t,Ic.ci,Nat.reduceEqDiff,reduceIte,Nat.reduceAdd,Nat.reduceLT,reduceCtorEq,Int.reduceToNat,hl,CL,LTN])
noncomputable def ql (p1 : aa) : Option Int :=
 u6 p1 (IntKind.i64.wrap ((2 : Int) * ((p1.Parties.length : Nat) : Int))) >>= fun y1 =>
 some y1
theorem zama (p1 : aa) (r : Int) (h : ql p1 = some r) (τ : TH) (hl : τ.lock ≤ τ.next) : Ru G qz [.agg [.str p1.ID,.sl (List.map ac.tv p1.Parties),.sl (List.map af.tv p1.Arcs),.sl (List.map (TV.int .i64) p1.Leaders),.sl (List.map TV.str p1.Locks),.int .i64 p1.Start,.int .i64 p1.Delta]] τ (.int .i64 r) τ := by
  refine jk fun K hK => ?_
  rw [b7 g_when_End (Nat.le_of_ble_eq_true rfl)]
  unfold ql at h
  obtain ⟨y1,hy1,h⟩ := ob h
  have k2 := zaoz p1 (IntKind.i64.wrap ((2 : Int) * ((p1.Parties.length : Nat) : Int))) _ hy1
  try simp only [CL,MC,Int.reduceToNat] at k2
  injection h with h; subst h
  simp -implicitDefEqProofs only [U_when_End,TT,Ic.t,Ic.ci,Nat.reduceEqDiff,reduceIte,Nat.reduceAdd,Nat.reduceLT,reduceCtorEq,Int.reduceToNat,hl,k2,CL,LTN]
  exact hK
theorem zab6 (p1 : aa) (r : Int) (h : ql p1 = some r) (lk : Bool) (d : Option Nat) (K : au) (fr : TF) (tk : TK) (τ : TH) (hl : τ.lock ≤ τ.next) : fv G lk qz [.agg [.str p1.ID,.sl (List.map ac.tv p1.Parties),.sl (List.map af.tv p1.Arcs),.sl (List.map (TV.int .i64) p1.Leaders),.sl (List.map TV.str p1.Locks),.int .i64 p1.Start,.int .i64 p1.Delta]] d K fr tk τ = K (fu fr d (.int .i64 r)) tk τ :=
  aw (zama p1 r h τ  hl) (zama p1 r h (τ.locked τ.next)  (Nat.le_refl _) ) (by simp -implicitDefEqProofs only [TT,Ic.t,Ic.ci,Nat.reduceEqDiff,reduceIte,Nat.reduceAdd,Nat.reduceLT,reduceCtorEq,Int.reduceToNat,hl,CL,LTN])
noncomputable def y0 (p1 : aa) : Option Int :=
 mt p1 >>= fun y1 =>
 if y1 = true then
  some (IntKind.i64.wrap (p1.Start + (IntKind.i64.wrap ((IntKind.i64.wrap ((2 : Int) * ((p1.Parties.length : Nat) : Int))) * p1.Delta)))) >>= fun x4 =>
  some x4
 else
 some (0 : Int)
theorem zarn (p1 : aa) (r : Int) (h : y0 p1 = some r) (τ : TH) (hl : τ.lock ≤ τ.next) : Ru G zh [.agg [.str p1.ID,.sl (List.map ac.tv p1.Parties),.sl (List.map af.tv p1.Arcs),.sl (List.map (TV.int .i64) p1.Leaders),.sl (List.map TV.str p1.Locks),.int .i64 p1.Start,.int .i64 p1.Delta]] τ (.int .i64 r) τ := by
  refine jk fun K hK => ?_
  rw [b7 g_R06_End (Nat.le_of_ble_eq_true rfl)]
  unfold y0 at h
  obtain ⟨y1,hy1,h⟩ := ob h
  have k2 := zaai p1 _ hy1
  try simp only [CL,MC,Int.reduceToNat] at k2
  by_cases c3 : y1 = true
  · rw [if_pos c3] at h
    obtain ⟨x4,hx4,h⟩ := ob h
    have f5 := Option.some.inj hx4
    injection h with h; subst h
    simp -implicitDefEqProofs only [za0o,TT,Ic.t,Ic.ci,Nat.reduceEqDiff,reduceIte,Nat.reduceAdd,Nat.reduceLT,reduceCtorEq,Int.reduceToNat,hl,k2,c3,f5,CL,LTN]
    exact hK
  rw [if_neg c3] at h
  have c3 := Bool.eq_false_iff.2 c3
  injection h with h; subst h
  simp -implicitDefEqProofs only [za0o,TT,Ic.t,Ic.ci,Nat.reduceEqDiff,reduceIte,Nat.reduceAdd,Nat.reduceLT,reduceCtorEq,Int.reduceToNat,hl,k2,c3,CL,LTN]
  exact hK
theorem za2y (p1 : aa) (r : Int) (h : y0 p1 = some r) (lk : Bool) (d : Option Nat) (K : au) (fr : TF) (tk : TK) (τ : TH) (hl : τ.lock ≤ τ.next) : fv G lk zh [.agg [.str p1.ID,.sl (List.map ac.tv p1.Parties),.sl (List.map af.tv p1.Arcs),.sl (List.map (TV.int .i64) p1.Leaders),.sl (List.map TV.str p1.Locks),.int .i64 p1.Start,.int .i64 p1.Delta]] d K fr tk τ = K (fu fr d (.int .i64 r)) tk τ :=
  aw (zarn p1 r h τ  hl) (zarn p1 r h (τ.locked τ.next)  (Nat.le_refl _) ) (by simp -implicitDefEqProofs only [TT,Ic.t,Ic.ci,Nat.reduceEqDiff,reduceIte,Nat.reduceAdd,Nat.reduceLT,reduceCtorEq,Int.reduceToNat,hl,CL,LTN])
noncomputable def dv (v0 : aa) (v2 : Int) (v1 : (List Int)) (v3 : Int) : Option (LS ((List Int) × Int) ((List Int))) :=
 if v3 < v2 then
  fx v0 (IntKind.i64.wrap (v3 + (1 : Int))) >>= fun y2 =>
  if (v1.length + 1) * 8 ≤ 140737488355328 then
   some (.nx ((v1 ++ [y2]),(IntKind.i64.wrap (v3 + (1 : Int)))))
  else
   none
 else
 some (.dn v1)
noncomputable def ip (v0 : aa) (v2 : Int) (v1 : (List Int)) (v3 : Int) : Option ((List Int)) := ko (fun st => dv v0 v2 st.1 st.2) (v1,v3)
theorem wu (v0 : aa) (v2 : Int) (v1 : (List Int)) (v3 : Int) : ip v0 v2 v1 v3 = dv v0 v2 v1 v3 >>= LS.go (fun st => ip v0 v2 st.1 st.2) := ei (fun st => dv v0 v2 st.1 st.2) (v1,v3)
def nf (v0 : aa) (v2 : Int) (v1 : (List Int)) (v3 : Int) (r : (List Int)) : Prop := ∀ (τ : TH) (o0 : Nat) (n0 : Nat) (ty0 : TypeId) (hnn0 : n0 = v1.length) (hty0 : n0 = 0 ∨ ty0 = ka) (hl : τ.lock ≤ τ.next) (ha0 : τ.at o0 = some ⟨aq,[.str v0.ID,.sl (List.map ac.tv v0.Parties),.sl (List.map af.tv v0.Arcs),.sl (List.map (TV.int .i64) v0.Leaders),.sl (List.map TV.str v0.Locks),.int .i64 v0.Start,.int .i64 v0.Delta]⟩) (hi0 : o0 < τ.next) (Q : TEx → au) (hQ0 : ∀ (fr : TF) (tk2 : TK) (τ2 : TH),∀ (u0 : TypeId),(r.length = 0 ∨ u0 = ka) → lkp fr 3 = .sla 0 (List.map (TV.int .i64) r) → tk2.take 1 = [some (r.length,u0)] → τ2.cut τ.next = τ → Q (.exit 0) fr tk2 τ2) ,tW G (.loop [1,3,10,11] te) Q [(1,.ptr o0 0),(3,.sla 0 (List.map (TV.int .i64) v1)),(10,.int .i64 v2),(11,.int .i64 v3)] [some (n0,ty0)] τ
theorem zale (v0 : aa) (v2 : Int) (v1 : (List Int)) (v3 : Int) (r : (List Int)) (h : ip v0 v2 v1 v3 = some r) : nf v0 v2 v1 v3 r := by
  refine cy (f := fun st => dv v0 v2 st.1 st.2) (P := fun st r => ∀ (v1 : (List Int)) (v3 : Int),(v1,v3) = st → nf v0 v2 v1 v3 r) ?_ h v1 v3 rfl
  clear h r v3 v1
  intro st o h r ih v1 v3 hst τ o0  n0 ty0 hnn0 hty0 hl ha0 hi0 Q hQ0
  subst hst
  have h : dv v0 v2 v1 v3 = some o := h
  unfold dv at h
  subst hnn0
  refine jm fun LQ hn hr he => ?_
  by_cases c1 : v3 < v2
  · rw [if_pos c1] at h
    obtain ⟨y2,hy2,h⟩ := ob h
    have k3 := ng v0 (IntKind.i64.wrap (v3 + (1 : Int))) _ hy2
    try simp only [CL,MC,Int.reduceToNat] at k3
    obtain ⟨c4,h⟩ := ifS h
    have f5 : 1 ≤ maxLen := by unfold maxLen; omega
    have f6 : v1.length + 1 ≤ maxLen := by unfold maxLen; omega
    have f7 : ((List.map (TV.int .i64) v1).all fun e => e.cells.length == 1) = true := allc (fun _ => rfl) _
    have f8 : List.map (TV.int .i64) v1 ++ List.map (TV.int .i64) [y2] = List.map (TV.int .i64) (v1 ++ [y2]) := appn _ _
    try simp only [CL,List.map_cons,List.map_nil] at f8
    injection h with h; subst h
    have ih := ih (v1 ++ [y2]) (IntKind.i64.wrap (v3 + (1 : Int))) rfl
    unfold nf at ih
    simp -implicitDefEqProofs only [te,tp,TT,Ic.t,Ic.ci,Nat.reduceEqDiff,reduceIte,Nat.reduceAdd,Nat.reduceMul,Nat.reduceLT,Nat.reduceLeDiff,Nat.reduceSub,reduceCtorEq,Int.reduceEq,Int.reduceNe,Int.reduceToNat,Int.reduceLT,Int.reduceLE,Int.reduceNeg,hl,ha0,hi0,hty0,c1,k3,c4,f5,f6,f7,f8,CL,LTN]
    rw [hn]
    simp -implicitDefEqProofs only [TT,Ic.t,Ic.ci,Nat.reduceEqDiff,reduceIte,Nat.reduceAdd,Nat.reduceMul,Nat.reduceLT,Nat.reduceLeDiff,Nat.reduceSub,reduceCtorEq,Int.reduceEq,Int.reduceNe,Int.reduceToNat,Int.reduceLT,Int.reduceLE,Int.reduceNeg,hl,ha0,hi0,hty0,c1,k3,c4,f5,f6,f7,f8,CL,LTN]
    exact ih  τ o0  (v1.length + 1) ka (by first | rfl | simp [ap]) (by first | exact hty0 | exact Or.inr rfl | simp) (by first | assumption | (simp only [ag,ah]; assumption)) (by simp -implicitDefEqProofs only [TT,Ic.t,Ic.ci,Nat.reduceEqDiff,reduceIte,Nat.reduceAdd,Nat.reduceMul,Nat.reduceLT,Nat.reduceLeDiff,Nat.reduceSub,reduceCtorEq,Int.reduceEq,Int.reduceNe,Int.reduceToNat,Int.reduceLT,Int.reduceLE,Int.reduceNeg,hl,ha0,hi0,hty0,c1,k3,c4,f5,f6,f7,f8,CL,LTN]) (by first | assumption | (simp only [ag,ah]; assumption)) Q hQ0
  rw [if_neg c1] at h
  injection h with h; subst h
  obtain rfl : _ = r := ih
  simp -implicitDefEqProofs only [te,tp,TT,Ic.t,Ic.ci,Nat.reduceEqDiff,reduceIte,Nat.reduceAdd,Nat.reduceMul,Nat.reduceLT,Nat.reduceLeDiff,Nat.reduceSub,reduceCtorEq,Int.reduceEq,Int.reduceNe,Int.reduceToNat,Int.reduceLT,Int.reduceLE,Int.reduceNeg,hl,ha0,hi0,hty0,he,hr,c1,CL,LTN]
  exact hQ0  _ _ _ ty0 (by first | exact hty0 | exact Or.inr rfl | simp) (by first | rfl | (simp -implicitDefEqProofs only [TT,Ic.t,Ic.ci,Nat.reduceEqDiff,reduceIte,Nat.reduceAdd,Nat.reduceMul,Nat.reduceLT,Nat.reduceLeDiff,Nat.reduceSub,reduceCtorEq,Int.reduceEq,Int.reduceNe,Int.reduceToNat,Int.reduceLT,Int.reduceLE,Int.reduceNeg,hl,ha0,hi0,hty0,c1,CL,LTN])) (by first | rfl | (simp -implicitDefEqProofs only [TT,Ic.t,Ic.ci,Nat.reduceEqDiff,reduceIte,Nat.reduceAdd,Nat.reduceMul,Nat.reduceLT,Nat.reduceLeDiff,Nat.reduceSub,reduceCtorEq,Int.reduceEq,Int.reduceNe,Int.reduceToNat,Int.reduceLT,Int.reduceLE,Int.reduceNeg,hl,ha0,hi0,hty0,c1,CL,LTN])) (by first | exact bp (Nat.le_refl _) | (simp -implicitDefEqProofs only [TT,Ic.t,Ic.ci,Nat.reduceEqDiff,reduceIte,Nat.reduceAdd,Nat.reduceMul,Nat.reduceLT,Nat.reduceLeDiff,Nat.reduceSub,reduceCtorEq,Int.reduceEq,Int.reduceNe,Int.reduceToNat,Int.reduceLT,Int.reduceLE,Int.reduceNeg,hl,ha0,hi0,hty0,c1,CL,LTN]))
noncomputable def mb (p1 : aa) : Option (List Int) :=
 mh p1 >>= fun y1 =>
 if y1 = true then
  ip p1 ((p1.Parties.length : Nat) : Int) [] (0 : Int) >>= fun y4 =>
  some y4
 else
 some []
theorem zaez (p1 : aa) (r : (List Int)) (h : mb p1 = some r) (τ : TH) (hl : τ.lock ≤ τ.next) : Ru G m6 [.agg [.str p1.ID,.sl (List.map ac.tv p1.Parties),.sl (List.map af.tv p1.Arcs),.sl (List.map (TV.int .i64) p1.Leaders),.sl (List.map TV.str p1.Locks),.int .i64 p1.Start,.int .i64 p1.Delta]] τ (.sl (List.map (TV.int .i64) r)) τ := by
  refine jk fun K hK => ?_
  rw [b7 zayw (Nat.le_of_ble_eq_true rfl)]
  unfold mb at h
  obtain ⟨y1,hy1,h⟩ := ob h
  have k2 := zae7 p1 _ hy1
  try simp only [CL,MC,Int.reduceToNat] at k2
  by_cases c3 : y1 = true
  · rw [if_pos c3] at h
    obtain ⟨y4,hy4,h⟩ := ob h
    simp -implicitDefEqProofs only [tp,TT,Ic.t,Ic.ci,Nat.reduceEqDiff,reduceIte,Nat.reduceAdd,Nat.reduceLT,reduceCtorEq,Int.reduceToNat,hl,k2,c3,CL,LTN]
    have Sy4 := zale p1 ((p1.Parties.length : Nat) : Int) [] (0 : Int) y4 hy4
    unfold nf at Sy4
    refine Sy4 _ τ.next 0 0 (by first | rfl | simp [ap]) (by first | exact Or.inl rfl | exact Or.inr rfl | assumption | simp) (by first | assumption | omega | (simp only [ag,aj,ah,av]; omega)) (by simp -implicitDefEqProofs only [TT,Ic.t,Ic.ci,Nat.reduceEqDiff,reduceIte,Nat.reduceAdd,Nat.reduceLT,reduceCtorEq,Int.reduceToNat,hl,k2,c3,CL,LTN]) (by first | assumption | omega | (simp only [ag,aj,ah,av]; omega)) _ ?_
    intro frq5 tkq5 τq5 u0q5 uh0q5 g3q5 htq5 hcq5
    have hcq5 := bq (n := τ.next + 1) hcq5 (by first | omega | (simp only [ag,aj]; omega))
    try simp only [List.take_succ_cons,List.take_zero,List.take_nil,CL] at htq5
    try simp -implicitDefEqProofs only [TT,Ic.t,Ic.ci,Nat.reduceEqDiff,reduceIte,Nat.reduceAdd,Nat.reduceLT,reduceCtorEq,Int.reduceToNat,hl,k2,c3,CL,LTN] at hcq5
    injection h with h; subst h
    simp -implicitDefEqProofs only [tp,TT,Ic.t,Ic.ci,Nat.reduceEqDiff,reduceIte,Nat.reduceAdd,Nat.reduceLT,reduceCtorEq,Int.reduceToNat,hl,k2,c3,uh0q5,g3q5,htq5,hcq5,CL,LTN]
    exact hK
  rw [if_neg c3] at h
  have c3 := Bool.eq_false_iff.2 c3
  injection h with h; subst h
  simp -implicitDefEqProofs only [tp,TT,Ic.t,Ic.ci,Nat.reduceEqDiff,reduceIte,Nat.reduceAdd,Nat.reduceLT,reduceCtorEq,Int.reduceToNat,hl,k2,c3,CL,LTN]
  exact hK
theorem zae0 (p1 : aa) (r : (List Int)) (h : mb p1 = some r) (lk : Bool) (d : Option Nat) (K : au) (fr : TF) (tk : TK) (τ : TH) (hl : τ.lock ≤ τ.next) : fv G lk m6 [.agg [.str p1.ID,.sl (List.map ac.tv p1.Parties),.sl (List.map af.tv p1.Arcs),.sl (List.map (TV.int .i64) p1.Leaders),.sl (List.map TV.str p1.Locks),.int .i64 p1.Start,.int .i64 p1.Delta]] d K fr tk τ = K (fu fr d (.sl (List.map (TV.int .i64) r))) tk τ :=
  aw (zaez p1 r h τ  hl) (zaez p1 r h (τ.locked τ.next)  (Nat.le_refl _) ) (by simp -implicitDefEqProofs only [TT,Ic.t,Ic.ci,Nat.reduceEqDiff,reduceIte,Nat.reduceAdd,Nat.reduceLT,reduceCtorEq,Int.reduceToNat,hl,CL,LTN])
noncomputable def dk (v0 : aa) (v1 : (List Int)) (v2 : Int) : Option (LS ((List Int) × Int) ((List Int))) :=
 if v2 ≤ ((v0.Parties.length : Nat) : Int) then
  mt v0 >>= fun y2 =>
  if y2 = true then
   ij v0 v2 >>= fun y5 =>
   if (v1.length + 1) * 8 ≤ 140737488355328 then
    some (.nx ((v1 ++ [y5]),(IntKind.i64.wrap (v2 + (1 : Int)))))
   else
    none
  else
  some (.dn v1)
 else
 some (.dn v1)
noncomputable def jr (v0 : aa) (v1 : (List Int)) (v2 : Int) : Option ((List Int)) := ko (fun st => dk v0 st.1 st.2) (v1,v2)
theorem sr (v0 : aa) (v1 : (List Int)) (v2 : Int) : jr v0 v1 v2 = dk v0 v1 v2 >>= LS.go (fun st => jr v0 st.1 st.2) := ei (fun st => dk v0 st.1 st.2) (v1,v2)
def pc (v0 : aa) (v1 : (List Int)) (v2 : Int) (r : (List Int)) : Prop := ∀ (τ : TH) (o0 : Nat) (n0 : Nat) (ty0 : TypeId) (hnn0 : n0 = v1.length) (hty0 : n0 = 0 ∨ ty0 = ka) (hl : τ.lock ≤ τ.next) (ha0 : τ.at o0 = some ⟨aq,[.str v0.ID,.sl (List.map ac.tv v0.Parties),.sl (List.map af.tv v0.Arcs),.sl (List.map (TV.int .i64) v0.Leaders),.sl (List.map TV.str v0.Locks),.int .i64 v0.Start,.int .i64 v0.Delta]⟩) (hi0 : o0 < τ.next) (Q : TEx → au) (hQ0 : ∀ (fr : TF) (tk2 : TK) (τ2 : TH),∀ (u0 : TypeId),(r.length = 0 ∨ u0 = ka) → lkp fr 3 = .sla 0 (List.map (TV.int .i64) r) → tk2.take 1 = [some (r.length,u0)] → τ2.cut τ.next = τ → Q (.exit 0) fr tk2 τ2) ,tW G (.loop [1,3,4] rq) Q [(1,.ptr o0 0),(3,.sla 0 (List.map (TV.int .i64) v1)),(4,.int .i64 v2)] [some (n0,ty0)] τ
theorem zaoi (v0 : aa) (v1 : (List Int)) (v2 : Int) (r : (List Int)) (h : jr v0 v1 v2 = some r) : pc v0 v1 v2 r := by
  refine cy (f := fun st => dk v0 st.1 st.2) (P := fun st r => ∀ (v1 : (List Int)) (v2 : Int),(v1,v2) = st → pc v0 v1 v2 r) ?_ h v1 v2 rfl
  clear h r v2 v1
  intro st o h r ih v1 v2 hst τ o0  n0 ty0 hnn0 hty0 hl ha0 hi0 Q hQ0
  subst hst
  have h : dk v0 v1 v2 = some o := h
  unfold dk at h
  subst hnn0
  refine jm fun LQ hn hr he => ?_
  by_cases c1 : v2 ≤ ((v0.Parties.length : Nat) : Int)
  · rw [if_pos c1] at h
    obtain ⟨y2,hy2,h⟩ := ob h
    have k3 := zaai v0 _ hy2
    try simp only [CL,MC,Int.reduceToNat] at k3
    by_cases c4 : y2 = true
    · rw [if_pos c4] at h
      obtain ⟨y5,hy5,h⟩ := ob h
      have k6 := t9 v0 v2 _ hy5
      try simp only [CL,MC,Int.reduceToNat] at k6
      obtain ⟨c7,h⟩ := ifS h
      have f8 : 1 ≤ maxLen := by unfold maxLen; omega
      have f9 : v1.length + 1 ≤ maxLen := by unfold maxLen; omega
      have f10 : ((List.map (TV.int .i64) v1).all fun e => e.cells.length == 1) = true := allc (fun _ => rfl) _
      have f11 : List.map (TV.int .i64) v1 ++ List.map (TV.int .i64) [y5] = List.map (TV.int .i64) (v1 ++ [y5]) := appn _ _
      try simp only [CL,List.map_cons,List.map_nil] at f11
      injection h with h; subst h
      have ih := ih (v1 ++ [y5]) (IntKind.i64.wrap (v2 + (1 : Int))) rfl
      unfold pc at ih
      simp -implicitDefEqProofs only [rq,vq,TT,Ic.t,Ic.ci,Nat.reduceEqDiff,reduceIte,Nat.reduceAdd,Nat.reduceMul,Nat.reduceLT,Nat.reduceLeDiff,Nat.reduceSub,reduceCtorEq,Int.reduceEq,Int.reduceNe,Int.reduceToNat,Int.reduceLT,Int.reduceLE,Int.reduceNeg,hl,ha0,hi0,hty0,c1,k3,c4,k6,c7,f8,f9,f10,f11,CL,LTN]
      rw [hn]
      simp -implicitDefEqProofs only [TT,Ic.t,Ic.ci,Nat.reduceEqDiff,reduceIte,Nat.reduceAdd,Nat.reduceMul,Nat.reduceLT,Nat.reduceLeDiff,Nat.reduceSub,reduceCtorEq,Int.reduceEq,Int.reduceNe,Int.reduceToNat,Int.reduceLT,Int.reduceLE,Int.reduceNeg,hl,ha0,hi0,hty0,c1,k3,c4,k6,c7,f8,f9,f10,f11,CL,LTN]
      exact ih  τ o0  (v1.length + 1) ka (by first | rfl | simp [ap]) (by first | exact hty0 | exact Or.inr rfl | simp) (by first | assumption | (simp only [ag,ah]; assumption)) (by simp -implicitDefEqProofs only [TT,Ic.t,Ic.ci,Nat.reduceEqDiff,reduceIte,Nat.reduceAdd,Nat.reduceMul,Nat.reduceLT,Nat.reduceLeDiff,Nat.reduceSub,reduceCtorEq,Int.reduceEq,Int.reduceNe,Int.reduceToNat,Int.reduceLT,Int.reduceLE,Int.reduceNeg,hl,ha0,hi0,hty0,c1,k3,c4,k6,c7,f8,f9,f10,f11,CL,LTN]) (by first | assumption | (simp only [ag,ah]; assumption)) Q hQ0
    rw [if_neg c4] at h
    have c4 := Bool.eq_false_iff.2 c4
    injection h with h; subst h
    obtain rfl : _ = r := ih
    simp -implicitDefEqProofs only [rq,vq,TT,Ic.t,Ic.ci,Nat.reduceEqDiff,reduceIte,Nat.reduceAdd,Nat.reduceMul,Nat.reduceLT,Nat.reduceLeDiff,Nat.reduceSub,reduceCtorEq,Int.reduceEq,Int.reduceNe,Int.reduceToNat,Int.reduceLT,Int.reduceLE,Int.reduceNeg,hl,ha0,hi0,hty0,he,hr,c1,k3,c4,CL,LTN]
    exact hQ0  _ _ _ ty0 (by first | exact hty0 | exact Or.inr rfl | simp) (by first | rfl | (simp -implicitDefEqProofs only [TT,Ic.t,Ic.ci,Nat.reduceEqDiff,reduceIte,Nat.reduceAdd,Nat.reduceMul,Nat.reduceLT,Nat.reduceLeDiff,Nat.reduceSub,reduceCtorEq,Int.reduceEq,Int.reduceNe,Int.reduceToNat,Int.reduceLT,Int.reduceLE,Int.reduceNeg,hl,ha0,hi0,hty0,c1,k3,c4,CL,LTN])) (by first | rfl | (simp -implicitDefEqProofs only [TT,Ic.t,Ic.ci,Nat.reduceEqDiff,reduceIte,Nat.reduceAdd,Nat.reduceMul,Nat.reduceLT,Nat.reduceLeDiff,Nat.reduceSub,reduceCtorEq,Int.reduceEq,Int.reduceNe,Int.reduceToNat,Int.reduceLT,Int.reduceLE,Int.reduceNeg,hl,ha0,hi0,hty0,c1,k3,c4,CL,LTN])) (by first | exact bp (Nat.le_refl _) | (simp -implicitDefEqProofs only [TT,Ic.t,Ic.ci,Nat.reduceEqDiff,reduceIte,Nat.reduceAdd,Nat.reduceMul,Nat.reduceLT,Nat.reduceLeDiff,Nat.reduceSub,reduceCtorEq,Int.reduceEq,Int.reduceNe,Int.reduceToNat,Int.reduceLT,Int.reduceLE,Int.reduceNeg,hl,ha0,hi0,hty0,c1,k3,c4,CL,LTN]))
  rw [if_neg c1] at h
  injection h with h; subst h
  obtain rfl : _ = r := ih
  simp -implicitDefEqProofs only [rq,vq,TT,Ic.t,Ic.ci,Nat.reduceEqDiff,reduceIte,Nat.reduceAdd,Nat.reduceMul,Nat.reduceLT,Nat.reduceLeDiff,Nat.reduceSub,reduceCtorEq,Int.reduceEq,Int.reduceNe,Int.reduceToNat,Int.reduceLT,Int.reduceLE,Int.reduceNeg,hl,ha0,hi0,hty0,he,hr,c1,CL,LTN]
  exact hQ0  _ _ _ ty0 (by first | exact hty0 | exact Or.inr rfl | simp) (by first | rfl | (simp -implicitDefEqProofs only [TT,Ic.t,Ic.ci,Nat.reduceEqDiff,reduceIte,Nat.reduceAdd,Nat.reduceMul,Nat.reduceLT,Nat.reduceLeDiff,Nat.reduceSub,reduceCtorEq,Int.reduceEq,Int.reduceNe,Int.reduceToNat,Int.reduceLT,Int.reduceLE,Int.reduceNeg,hl,ha0,hi0,hty0,c1,CL,LTN])) (by first | rfl | (simp -implicitDefEqProofs only [TT,Ic.t,Ic.ci,Nat.reduceEqDiff,reduceIte,Nat.reduceAdd,Nat.reduceMul,Nat.reduceLT,Nat.reduceLeDiff,Nat.reduceSub,reduceCtorEq,Int.reduceEq,Int.reduceNe,Int.reduceToNat,Int.reduceLT,Int.reduceLE,Int.reduceNeg,hl,ha0,hi0,hty0,c1,CL,LTN])) (by first | exact bp (Nat.le_refl _) | (simp -implicitDefEqProofs only [TT,Ic.t,Ic.ci,Nat.reduceEqDiff,reduceIte,Nat.reduceAdd,Nat.reduceMul,Nat.reduceLT,Nat.reduceLeDiff,Nat.reduceSub,reduceCtorEq,Int.reduceEq,Int.reduceNe,Int.reduceToNat,Int.reduceLT,Int.reduceLE,Int.reduceNeg,hl,ha0,hi0,hty0,c1,CL,LTN]))
noncomputable def ss (p1 : aa) : Option (List Int) :=
 jr p1 [] (1 : Int) >>= fun y1 =>
 some y1
theorem zakv (p1 : aa) (r : (List Int)) (h : ss p1 = some r) (τ : TH) (hl : τ.lock ≤ τ.next) : Ru G sy [.agg [.str p1.ID,.sl (List.map ac.tv p1.Parties),.sl (List.map af.tv p1.Arcs),.sl (List.map (TV.int .i64) p1.Leaders),.sl (List.map TV.str p1.Locks),.int .i64 p1.Start,.int .i64 p1.Delta]] τ (.sl (List.map (TV.int .i64) r)) τ := by
  refine jk fun K hK => ?_
  rw [b7 za13 (Nat.le_of_ble_eq_true rfl)]
  unfold ss at h
  obtain ⟨y1,hy1,h⟩ := ob h
  simp -implicitDefEqProofs only [vq,TT,Ic.t,Ic.ci,Nat.reduceEqDiff,reduceIte,Nat.reduceAdd,Nat.reduceLT,reduceCtorEq,Int.reduceToNat,hl,CL,LTN]
  have Sy1 := zaoi p1 [] (1 : Int) y1 hy1
  unfold pc at Sy1
  refine Sy1 _ τ.next 0 0 (by first | rfl | simp [ap]) (by first | exact Or.inl rfl | exact Or.inr rfl | assumption | simp) (by first | assumption | omega | (simp only [ag,aj,ah,av]; omega)) (by simp -implicitDefEqProofs only [TT,Ic.t,Ic.ci,Nat.reduceEqDiff,reduceIte,Nat.reduceAdd,Nat.reduceLT,reduceCtorEq,Int.reduceToNat,hl,CL,LTN]) (by first | assumption | omega | (simp only [ag,aj,ah,av]; omega)) _ ?_
  intro frq2 tkq2 τq2 u0q2 uh0q2 g3q2 htq2 hcq2
  have hcq2 := bq (n := τ.next + 1) hcq2 (by first | omega | (simp only [ag,aj]; omega))
  try simp only [List.take_succ_cons,List.take_zero,List.take_nil,CL] at htq2
  try simp -implicitDefEqProofs only [TT,Ic.t,Ic.ci,Nat.reduceEqDiff,reduceIte,Nat.reduceAdd,Nat.reduceLT,reduceCtorEq,Int.reduceToNat,hl,CL,LTN] at hcq2
  injection h with h; subst h
  simp -implicitDefEqProofs only [vq,TT,Ic.t,Ic.ci,Nat.reduceEqDiff,reduceIte,Nat.reduceAdd,Nat.reduceLT,reduceCtorEq,Int.reduceToNat,hl,uh0q2,g3q2,htq2,hcq2,CL,LTN]
  exact hK
theorem zav6 (p1 : aa) (r : (List Int)) (h : ss p1 = some r) (lk : Bool) (d : Option Nat) (K : au) (fr : TF) (tk : TK) (τ : TH) (hl : τ.lock ≤ τ.next) : fv G lk sy [.agg [.str p1.ID,.sl (List.map ac.tv p1.Parties),.sl (List.map af.tv p1.Arcs),.sl (List.map (TV.int .i64) p1.Leaders),.sl (List.map TV.str p1.Locks),.int .i64 p1.Start,.int .i64 p1.Delta]] d K fr tk τ = K (fu fr d (.sl (List.map (TV.int .i64) r))) tk τ :=
  aw (zakv p1 r h τ  hl) (zakv p1 r h (τ.locked τ.next)  (Nat.le_refl _) ) (by simp -implicitDefEqProofs only [TT,Ic.t,Ic.ci,Nat.reduceEqDiff,reduceIte,Nat.reduceAdd,Nat.reduceLT,reduceCtorEq,Int.reduceToNat,hl,CL,LTN])
end Go.Proofs.Ytdcfoaafkppojaa
