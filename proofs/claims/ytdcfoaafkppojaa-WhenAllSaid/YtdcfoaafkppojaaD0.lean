/- Functions of numbers and lists, printed by a program of ours out of the code for the tree level, with their proofs. -/
import Derived.Test.YtdcfoaafkppojaaDt
set_option linter.unusedVariables false
set_option linter.unusedSimpArgs false
set_option linter.unusedSectionVars false
namespace Go.Proofs.Ytdcfoaafkppojaa
open Go Go.RowKit Sh Ic
noncomputable def de (v0 : aa) (v1 : Int) (v2 : Int) : Option (LS (Int) (LX (Unit) (Bool))) :=
 ixL v0.Parties v1 >>= fun y1 =>
 if v2 < ((y1.Keys.length : Nat) : Int) then
  ixL y1.Keys v2 >>= fun y4 =>
  if (40 : Int) < ((y4.size : Nat) : Int) then
   some (.dn (.rt false))
  else
  some (.nx (IntKind.i64.wrap (v2 + (1 : Int))))
 else
 some (.dn (.ex ()))
noncomputable def d9 (v0 : aa) (v1 : Int) (v2 : Int) : Option (LX (Unit) (Bool)) := ko (fun st => de v0 v1 st) v2
theorem vy (v0 : aa) (v1 : Int) (v2 : Int) : d9 v0 v1 v2 = de v0 v1 v2 >>= LS.go (fun st => d9 v0 v1 st) := ei (fun st => de v0 v1 st) v2
def l7 (v0 : aa) (v1 : Int) (v2 : Int) (r : LX (Unit) (Bool)) : Prop := ∀ (τ : TH) (o0 : Nat) (hl : τ.lock ≤ τ.next) (ha0 : τ.at o0 = some ⟨aq,[.str v0.ID,.sl (List.map ac.tv v0.Parties),.sl (List.map af.tv v0.Arcs),.sl (List.map (TV.int .i64) v0.Leaders),.sl (List.map TV.str v0.Locks),.int .i64 v0.Start,.int .i64 v0.Delta]⟩) (hi0 : o0 < τ.next) (Q : TEx → au) (hQ0 : ∀ v : Unit,r = (.ex v) → ∀ (fr : TF) (tk2 : TK) (τ2 : TH),lkp fr 1 = .ptr o0 0 → lkp fr 3 = .int .i64 v1 → tk2.take 0 = [] → τ2.cut τ.next = τ → Q (.exit 2) fr tk2 τ2) (hQ1 : ∀ v : Bool,r = (.rt v) → ∀ (tk2 : TK) (τ2 : TH),τ2.cut τ.next = τ → Q .ret [(2,.bool v)] tk2 τ2) ,tW G (.loop [1,3,4] mo) Q [(1,.ptr o0 0),(3,.int .i64 v1),(4,.int .i64 v2)] [] τ
theorem zalb (v0 : aa) (v1 : Int) (v2 : Int) (r : LX (Unit) (Bool)) (h : d9 v0 v1 v2 = some r) : l7 v0 v1 v2 r := by
  refine cy (f := fun st => de v0 v1 st) (P := fun st r => ∀ (v2 : Int),v2 = st → l7 v0 v1 v2 r) ?_ h v2 rfl
  clear h r v2
  intro st o h r ih v2 hst τ o0  hl ha0 hi0 Q hQ0 hQ1
  subst hst
  have h : de v0 v1 v2 = some o := h
  unfold de at h
  refine jm fun LQ hn hr he => ?_
  obtain ⟨y1,hy1,h⟩ := ob h
  have f2 := a9 hy1
  have f2a := (f2.2.2 ac.tv).1
  have f2b := (f2.2.2 ac.tv).2
  try simp only [CL,MC,Int.reduceToNat] at f2 f2a f2b
  by_cases c3 : v2 < ((y1.Keys.length : Nat) : Int)
  · rw [if_pos c3] at h
    obtain ⟨y4,hy4,h⟩ := ob h
    have f5 := a9 hy4
    have f5a := (f5.2.2 TV.str).1
    have f5b := (f5.2.2 TV.str).2
    try simp only [CL,MC,Int.reduceToNat] at f5 f5a f5b
    by_cases c6 : (40 : Int) < ((y4.size : Nat) : Int)
    · rw [if_pos c6] at h
      injection h with h; subst h
      obtain rfl : _ = r := ih
      simp -implicitDefEqProofs only [mo,ax,TT,Ic.t,Ic.ci,Nat.reduceEqDiff,reduceIte,Nat.reduceAdd,Nat.reduceLT,reduceCtorEq,Int.reduceToNat,hl,ha0,hi0,he,hr,f2.1,f2.2.1,f2a,f2b,c3,f5.1,f5.2.1,f5a,f5b,c6,CL,LTN]
      exact hQ1 false rfl  _ _  (by first | exact bp (Nat.le_refl _) | (simp -implicitDefEqProofs only [TT,Ic.t,Ic.ci,Nat.reduceEqDiff,reduceIte,Nat.reduceAdd,Nat.reduceLT,reduceCtorEq,Int.reduceToNat,hl,ha0,hi0,f2.1,f2.2.1,f2a,f2b,c3,f5.1,f5.2.1,f5a,f5b,c6,CL,LTN]))
    rw [if_neg c6] at h
    injection h with h; subst h
    have ih := ih (IntKind.i64.wrap (v2 + (1 : Int))) rfl
    unfold l7 at ih
    simp -implicitDefEqProofs only [mo,ax,TT,Ic.t,Ic.ci,Nat.reduceEqDiff,reduceIte,Nat.reduceAdd,Nat.reduceLT,reduceCtorEq,Int.reduceToNat,hl,ha0,hi0,f2.1,f2.2.1,f2a,f2b,c3,f5.1,f5.2.1,f5a,f5b,c6,CL,LTN]
    rw [hn]
    simp -implicitDefEqProofs only [TT,Ic.t,Ic.ci,Nat.reduceEqDiff,reduceIte,Nat.reduceAdd,Nat.reduceLT,reduceCtorEq,Int.reduceToNat,hl,ha0,hi0,f2.1,f2.2.1,f2a,f2b,c3,f5.1,f5.2.1,f5a,f5b,c6,CL,LTN]
    exact ih  τ o0   (by first | assumption | (simp only [ag,ah]; assumption)) (by simp -implicitDefEqProofs only [TT,Ic.t,Ic.ci,Nat.reduceEqDiff,reduceIte,Nat.reduceAdd,Nat.reduceLT,reduceCtorEq,Int.reduceToNat,hl,ha0,hi0,f2.1,f2.2.1,f2a,f2b,c3,f5.1,f5.2.1,f5a,f5b,c6,CL,LTN]) (by first | assumption | (simp only [ag,ah]; assumption)) Q hQ0 hQ1
  rw [if_neg c3] at h
  injection h with h; subst h
  obtain rfl : _ = r := ih
  simp -implicitDefEqProofs only [mo,ax,TT,Ic.t,Ic.ci,Nat.reduceEqDiff,reduceIte,Nat.reduceAdd,Nat.reduceLT,reduceCtorEq,Int.reduceToNat,hl,ha0,hi0,he,hr,f2.1,f2.2.1,f2a,f2b,c3,CL,LTN]
  exact hQ0 () rfl  _ _ _  (by first | rfl | (simp -implicitDefEqProofs only [TT,Ic.t,Ic.ci,Nat.reduceEqDiff,reduceIte,Nat.reduceAdd,Nat.reduceLT,reduceCtorEq,Int.reduceToNat,hl,ha0,hi0,f2.1,f2.2.1,f2a,f2b,c3,CL,LTN])) (by first | rfl | (simp -implicitDefEqProofs only [TT,Ic.t,Ic.ci,Nat.reduceEqDiff,reduceIte,Nat.reduceAdd,Nat.reduceLT,reduceCtorEq,Int.reduceToNat,hl,ha0,hi0,f2.1,f2.2.1,f2a,f2b,c3,CL,LTN])) (by first | rfl | (simp -implicitDefEqProofs only [TT,Ic.t,Ic.ci,Nat.reduceEqDiff,reduceIte,Nat.reduceAdd,Nat.reduceLT,reduceCtorEq,Int.reduceToNat,hl,ha0,hi0,f2.1,f2.2.1,f2a,f2b,c3,CL,LTN])) (by first | exact bp (Nat.le_refl _) | (simp -implicitDefEqProofs only [TT,Ic.t,Ic.ci,Nat.reduceEqDiff,reduceIte,Nat.reduceAdd,Nat.reduceLT,reduceCtorEq,Int.reduceToNat,hl,ha0,hi0,f2.1,f2.2.1,f2a,f2b,c3,CL,LTN]))
noncomputable def df (v0 : aa) (v1 : Int) : Option (LS (Int) (LX (Unit) (Bool))) :=
 if v1 < ((v0.Parties.length : Nat) : Int) then
  ixL v0.Parties v1 >>= fun y2 =>
  if (6 : Int) < ((y2.Keys.length : Nat) : Int) then
   some (.dn (.rt false))
  else
  if (40 : Int) < ((y2.Account.size : Nat) : Int) then
   some (.dn (.rt false))
  else
  d9 v0 v1 (0 : Int) >>= fun y6 =>
  match y6 with
  | .ex w7 =>
   some (.nx (IntKind.i64.wrap (v1 + (1 : Int))))
  | .rt w9 =>
   some (.dn (.rt w9))
 else
 some (.dn (.ex ()))
noncomputable def eg (v0 : aa) (v1 : Int) : Option (LX (Unit) (Bool)) := ko (fun st => df v0 st) v1
theorem vz (v0 : aa) (v1 : Int) : eg v0 v1 = df v0 v1 >>= LS.go (fun st => eg v0 st) := ei (fun st => df v0 st) v1
def l9 (v0 : aa) (v1 : Int) (r : LX (Unit) (Bool)) : Prop := ∀ (τ : TH) (o0 : Nat) (hl : τ.lock ≤ τ.next) (ha0 : τ.at o0 = some ⟨aq,[.str v0.ID,.sl (List.map ac.tv v0.Parties),.sl (List.map af.tv v0.Arcs),.sl (List.map (TV.int .i64) v0.Leaders),.sl (List.map TV.str v0.Locks),.int .i64 v0.Start,.int .i64 v0.Delta]⟩) (hi0 : o0 < τ.next) (Q : TEx → au) (hQ0 : ∀ v : Unit,r = (.ex v) → ∀ (fr : TF) (tk2 : TK) (τ2 : TH),lkp fr 1 = .ptr o0 0 → tk2.take 0 = [] → τ2.cut τ.next = τ → Q (.exit 0) fr tk2 τ2) (hQ1 : ∀ v : Bool,r = (.rt v) → ∀ (tk2 : TK) (τ2 : TH),τ2.cut τ.next = τ → Q .ret [(2,.bool v)] tk2 τ2) ,tW G (.loop [1,3] gv) Q [(1,.ptr o0 0),(3,.int .i64 v1)] [] τ
theorem zalc (v0 : aa) (v1 : Int) (r : LX (Unit) (Bool)) (h : eg v0 v1 = some r) : l9 v0 v1 r := by
  refine cy (f := fun st => df v0 st) (P := fun st r => ∀ (v1 : Int),v1 = st → l9 v0 v1 r) ?_ h v1 rfl
  clear h r v1
  intro st o h r ih v1 hst τ o0  hl ha0 hi0 Q hQ0 hQ1
  subst hst
  have h : df v0 v1 = some o := h
  unfold df at h
  refine jm fun LQ hn hr he => ?_
  by_cases c1 : v1 < ((v0.Parties.length : Nat) : Int)
  · rw [if_pos c1] at h
    obtain ⟨y2,hy2,h⟩ := ob h
    have f3 := a9 hy2
    have f3a := (f3.2.2 ac.tv).1
    have f3b := (f3.2.2 ac.tv).2
    try simp only [CL,MC,Int.reduceToNat] at f3 f3a f3b
    by_cases c4 : (6 : Int) < ((y2.Keys.length : Nat) : Int)
    · rw [if_pos c4] at h
      injection h with h; subst h
      obtain rfl : _ = r := ih
      simp -implicitDefEqProofs only [gv,ax,TT,Ic.t,Ic.ci,Nat.reduceEqDiff,reduceIte,Nat.reduceAdd,Nat.reduceLT,reduceCtorEq,Int.reduceToNat,hl,ha0,hi0,he,hr,c1,f3.1,f3.2.1,f3a,f3b,c4,CL,LTN]
      exact hQ1 false rfl  _ _  (by first | exact bp (Nat.le_refl _) | (simp -implicitDefEqProofs only [TT,Ic.t,Ic.ci,Nat.reduceEqDiff,reduceIte,Nat.reduceAdd,Nat.reduceLT,reduceCtorEq,Int.reduceToNat,hl,ha0,hi0,c1,f3.1,f3.2.1,f3a,f3b,c4,CL,LTN]))
    rw [if_neg c4] at h
    by_cases c5 : (40 : Int) < ((y2.Account.size : Nat) : Int)
    · rw [if_pos c5] at h
      injection h with h; subst h
      obtain rfl : _ = r := ih
      simp -implicitDefEqProofs only [gv,ax,TT,Ic.t,Ic.ci,Nat.reduceEqDiff,reduceIte,Nat.reduceAdd,Nat.reduceLT,reduceCtorEq,Int.reduceToNat,hl,ha0,hi0,he,hr,c1,f3.1,f3.2.1,f3a,f3b,c4,c5,CL,LTN]
      exact hQ1 false rfl  _ _  (by first | exact bp (Nat.le_refl _) | (simp -implicitDefEqProofs only [TT,Ic.t,Ic.ci,Nat.reduceEqDiff,reduceIte,Nat.reduceAdd,Nat.reduceLT,reduceCtorEq,Int.reduceToNat,hl,ha0,hi0,c1,f3.1,f3.2.1,f3a,f3b,c4,c5,CL,LTN]))
    rw [if_neg c5] at h
    obtain ⟨y6,hy6,h⟩ := ob h
    simp -implicitDefEqProofs only [gv,ax,TT,Ic.t,Ic.ci,Nat.reduceEqDiff,reduceIte,Nat.reduceAdd,Nat.reduceLT,reduceCtorEq,Int.reduceToNat,hl,ha0,hi0,c1,f3.1,f3.2.1,f3a,f3b,c4,c5,CL,LTN]
    have Sy6 := zalb v0 v1 (0 : Int) y6 hy6
    unfold l7 at Sy6
    refine Sy6 _ o0 (by first | assumption | omega | (simp only [ag,aj,ah,av]; omega)) (by simp -implicitDefEqProofs only [TT,Ic.t,Ic.ci,Nat.reduceEqDiff,reduceIte,Nat.reduceAdd,Nat.reduceLT,reduceCtorEq,Int.reduceToNat,hl,ha0,hi0,c1,f3.1,f3.2.1,f3a,f3b,c4,c5,CL,LTN]) (by first | assumption | omega | (simp only [ag,aj,ah,av]; omega)) _ ?_ ?_
    · intro w7 e frq8 tkq8 τq8 g1q8 g3q8 htq8 hcq8
      subst e
      simp only at h
      have hcq8 := bq (n := τ.next) hcq8 (by first | omega | (simp only [ag,aj]; omega))
      try simp only [List.take_succ_cons,List.take_zero,List.take_nil,CL] at htq8
      try simp -implicitDefEqProofs only [TT,Ic.t,Ic.ci,Nat.reduceEqDiff,reduceIte,Nat.reduceAdd,Nat.reduceLT,reduceCtorEq,Int.reduceToNat,hl,ha0,hi0,c1,f3.1,f3.2.1,f3a,f3b,c4,c5,CL,LTN] at hcq8
      injection h with h; subst h
      have ih := ih (IntKind.i64.wrap (v1 + (1 : Int))) rfl
      unfold l9 at ih
      simp -implicitDefEqProofs only [gv,ax,TT,Ic.t,Ic.ci,Nat.reduceEqDiff,reduceIte,Nat.reduceAdd,Nat.reduceLT,reduceCtorEq,Int.reduceToNat,hl,ha0,hi0,c1,f3.1,f3.2.1,f3a,f3b,c4,c5,g1q8,g3q8,htq8,hcq8,CL,LTN]
      rw [hn]
      simp -implicitDefEqProofs only [TT,Ic.t,Ic.ci,Nat.reduceEqDiff,reduceIte,Nat.reduceAdd,Nat.reduceLT,reduceCtorEq,Int.reduceToNat,hl,ha0,hi0,c1,f3.1,f3.2.1,f3a,f3b,c4,c5,g1q8,g3q8,htq8,hcq8,CL,LTN]
      exact ih  τ o0   (by first | assumption | (simp only [ag,ah]; assumption)) (by simp -implicitDefEqProofs only [TT,Ic.t,Ic.ci,Nat.reduceEqDiff,reduceIte,Nat.reduceAdd,Nat.reduceLT,reduceCtorEq,Int.reduceToNat,hl,ha0,hi0,c1,f3.1,f3.2.1,f3a,f3b,c4,c5,g1q8,g3q8,htq8,hcq8,CL,LTN]) (by first | assumption | (simp only [ag,ah]; assumption)) Q hQ0 hQ1
    intro w9 e tkq10 τq10 hcq10
    subst e
    simp only at h
    have hcq10 := bq (n := τ.next) hcq10 (by first | omega | (simp only [ag,aj]; omega))
    try simp -implicitDefEqProofs only [TT,Ic.t,Ic.ci,Nat.reduceEqDiff,reduceIte,Nat.reduceAdd,Nat.reduceLT,reduceCtorEq,Int.reduceToNat,hl,ha0,hi0,c1,f3.1,f3.2.1,f3a,f3b,c4,c5,CL,LTN] at hcq10
    injection h with h; subst h
    obtain rfl : _ = r := ih
    simp -implicitDefEqProofs only [gv,ax,TT,Ic.t,Ic.ci,Nat.reduceEqDiff,reduceIte,Nat.reduceAdd,Nat.reduceLT,reduceCtorEq,Int.reduceToNat,hl,ha0,hi0,he,hr,c1,f3.1,f3.2.1,f3a,f3b,c4,c5,hcq10,CL,LTN]
    exact hQ1 w9 rfl  _ _  (by first | exact bp (Nat.le_refl _) | (simp -implicitDefEqProofs only [TT,Ic.t,Ic.ci,Nat.reduceEqDiff,reduceIte,Nat.reduceAdd,Nat.reduceLT,reduceCtorEq,Int.reduceToNat,hl,ha0,hi0,c1,f3.1,f3.2.1,f3a,f3b,c4,c5,hcq10,CL,LTN]))
  rw [if_neg c1] at h
  injection h with h; subst h
  obtain rfl : _ = r := ih
  simp -implicitDefEqProofs only [gv,ax,TT,Ic.t,Ic.ci,Nat.reduceEqDiff,reduceIte,Nat.reduceAdd,Nat.reduceLT,reduceCtorEq,Int.reduceToNat,hl,ha0,hi0,he,hr,c1,CL,LTN]
  exact hQ0 () rfl  _ _ _  (by first | rfl | (simp -implicitDefEqProofs only [TT,Ic.t,Ic.ci,Nat.reduceEqDiff,reduceIte,Nat.reduceAdd,Nat.reduceLT,reduceCtorEq,Int.reduceToNat,hl,ha0,hi0,c1,CL,LTN])) (by first | rfl | (simp -implicitDefEqProofs only [TT,Ic.t,Ic.ci,Nat.reduceEqDiff,reduceIte,Nat.reduceAdd,Nat.reduceLT,reduceCtorEq,Int.reduceToNat,hl,ha0,hi0,c1,CL,LTN])) (by first | exact bp (Nat.le_refl _) | (simp -implicitDefEqProofs only [TT,Ic.t,Ic.ci,Nat.reduceEqDiff,reduceIte,Nat.reduceAdd,Nat.reduceLT,reduceCtorEq,Int.reduceToNat,hl,ha0,hi0,c1,CL,LTN]))
noncomputable def dd (v0 : aa) (v1 : Int) : Option (LS (Int) (LX (Unit) (Bool))) :=
 if v1 < ((v0.Arcs.length : Nat) : Int) then
  ixL v0.Arcs v1 >>= fun y2 =>
  if (40 : Int) < ((y2.Asset.size : Nat) : Int) then
   some (.dn (.rt false))
  else
  some (.nx (IntKind.i64.wrap (v1 + (1 : Int))))
 else
 some (.dn (.ex ()))
noncomputable def cv (v0 : aa) (v1 : Int) : Option (LX (Unit) (Bool)) := ko (fun st => dd v0 st) v1
theorem vx (v0 : aa) (v1 : Int) : cv v0 v1 = dd v0 v1 >>= LS.go (fun st => cv v0 st) := ei (fun st => dd v0 st) v1
def l6 (v0 : aa) (v1 : Int) (r : LX (Unit) (Bool)) : Prop := ∀ (τ : TH) (o0 : Nat) (hl : τ.lock ≤ τ.next) (ha0 : τ.at o0 = some ⟨aq,[.str v0.ID,.sl (List.map ac.tv v0.Parties),.sl (List.map af.tv v0.Arcs),.sl (List.map (TV.int .i64) v0.Leaders),.sl (List.map TV.str v0.Locks),.int .i64 v0.Start,.int .i64 v0.Delta]⟩) (hi0 : o0 < τ.next) (Q : TEx → au) (hQ0 : ∀ v : Unit,r = (.ex v) → ∀ (fr : TF) (tk2 : TK) (τ2 : TH),lkp fr 1 = .ptr o0 0 → tk2.take 0 = [] → τ2.cut τ.next = τ → Q (.exit 4) fr tk2 τ2) (hQ1 : ∀ v : Bool,r = (.rt v) → ∀ (tk2 : TK) (τ2 : TH),τ2.cut τ.next = τ → Q .ret [(2,.bool v)] tk2 τ2) ,tW G (.loop [1,5] mn) Q [(1,.ptr o0 0),(5,.int .i64 v1)] [] τ
theorem zala (v0 : aa) (v1 : Int) (r : LX (Unit) (Bool)) (h : cv v0 v1 = some r) : l6 v0 v1 r := by
  refine cy (f := fun st => dd v0 st) (P := fun st r => ∀ (v1 : Int),v1 = st → l6 v0 v1 r) ?_ h v1 rfl
  clear h r v1
  intro st o h r ih v1 hst τ o0  hl ha0 hi0 Q hQ0 hQ1
  subst hst
  have h : dd v0 v1 = some o := h
  unfold dd at h
  refine jm fun LQ hn hr he => ?_
  by_cases c1 : v1 < ((v0.Arcs.length : Nat) : Int)
  · rw [if_pos c1] at h
    obtain ⟨y2,hy2,h⟩ := ob h
    have f3 := a9 hy2
    have f3a := (f3.2.2 af.tv).1
    have f3b := (f3.2.2 af.tv).2
    try simp only [CL,MC,Int.reduceToNat] at f3 f3a f3b
    by_cases c4 : (40 : Int) < ((y2.Asset.size : Nat) : Int)
    · rw [if_pos c4] at h
      injection h with h; subst h
      obtain rfl : _ = r := ih
      simp -implicitDefEqProofs only [mn,ax,TT,Ic.t,Ic.ci,Nat.reduceEqDiff,reduceIte,Nat.reduceAdd,Nat.reduceLT,reduceCtorEq,Int.reduceToNat,hl,ha0,hi0,he,hr,c1,f3.1,f3.2.1,f3a,f3b,c4,CL,LTN]
      exact hQ1 false rfl  _ _  (by first | exact bp (Nat.le_refl _) | (simp -implicitDefEqProofs only [TT,Ic.t,Ic.ci,Nat.reduceEqDiff,reduceIte,Nat.reduceAdd,Nat.reduceLT,reduceCtorEq,Int.reduceToNat,hl,ha0,hi0,c1,f3.1,f3.2.1,f3a,f3b,c4,CL,LTN]))
    rw [if_neg c4] at h
    injection h with h; subst h
    have ih := ih (IntKind.i64.wrap (v1 + (1 : Int))) rfl
    unfold l6 at ih
    simp -implicitDefEqProofs only [mn,ax,TT,Ic.t,Ic.ci,Nat.reduceEqDiff,reduceIte,Nat.reduceAdd,Nat.reduceLT,reduceCtorEq,Int.reduceToNat,hl,ha0,hi0,c1,f3.1,f3.2.1,f3a,f3b,c4,CL,LTN]
    rw [hn]
    simp -implicitDefEqProofs only [TT,Ic.t,Ic.ci,Nat.reduceEqDiff,reduceIte,Nat.reduceAdd,Nat.reduceLT,reduceCtorEq,Int.reduceToNat,hl,ha0,hi0,c1,f3.1,f3.2.1,f3a,f3b,c4,CL,LTN]
    exact ih  τ o0   (by first | assumption | (simp only [ag,ah]; assumption)) (by simp -implicitDefEqProofs only [TT,Ic.t,Ic.ci,Nat.reduceEqDiff,reduceIte,Nat.reduceAdd,Nat.reduceLT,reduceCtorEq,Int.reduceToNat,hl,ha0,hi0,c1,f3.1,f3.2.1,f3a,f3b,c4,CL,LTN]) (by first | assumption | (simp only [ag,ah]; assumption)) Q hQ0 hQ1
  rw [if_neg c1] at h
  injection h with h; subst h
  obtain rfl : _ = r := ih
  simp -implicitDefEqProofs only [mn,ax,TT,Ic.t,Ic.ci,Nat.reduceEqDiff,reduceIte,Nat.reduceAdd,Nat.reduceLT,reduceCtorEq,Int.reduceToNat,hl,ha0,hi0,he,hr,c1,CL,LTN]
  exact hQ0 () rfl  _ _ _  (by first | rfl | (simp -implicitDefEqProofs only [TT,Ic.t,Ic.ci,Nat.reduceEqDiff,reduceIte,Nat.reduceAdd,Nat.reduceLT,reduceCtorEq,Int.reduceToNat,hl,ha0,hi0,c1,CL,LTN])) (by first | rfl | (simp -implicitDefEqProofs only [TT,Ic.t,Ic.ci,Nat.reduceEqDiff,reduceIte,Nat.reduceAdd,Nat.reduceLT,reduceCtorEq,Int.reduceToNat,hl,ha0,hi0,c1,CL,LTN])) (by first | exact bp (Nat.le_refl _) | (simp -implicitDefEqProofs only [TT,Ic.t,Ic.ci,Nat.reduceEqDiff,reduceIte,Nat.reduceAdd,Nat.reduceLT,reduceCtorEq,Int.reduceToNat,hl,ha0,hi0,c1,CL,LTN]))
noncomputable def dc (v0 : aa) (v1 : Int) : Option (LS (Int) (LX (Unit) (Bool))) :=
 if v1 < ((v0.Locks.length : Nat) : Int) then
  ixL v0.Locks v1 >>= fun y2 =>
  if (40 : Int) < ((y2.size : Nat) : Int) then
   some (.dn (.rt false))
  else
  some (.nx (IntKind.i64.wrap (v1 + (1 : Int))))
 else
 some (.dn (.ex ()))
noncomputable def cq (v0 : aa) (v1 : Int) : Option (LX (Unit) (Bool)) := ko (fun st => dc v0 st) v1
theorem vv (v0 : aa) (v1 : Int) : cq v0 v1 = dc v0 v1 >>= LS.go (fun st => cq v0 st) := ei (fun st => dc v0 st) v1
def l5 (v0 : aa) (v1 : Int) (r : LX (Unit) (Bool)) : Prop := ∀ (τ : TH) (o0 : Nat) (hl : τ.lock ≤ τ.next) (ha0 : τ.at o0 = some ⟨aq,[.str v0.ID,.sl (List.map ac.tv v0.Parties),.sl (List.map af.tv v0.Arcs),.sl (List.map (TV.int .i64) v0.Leaders),.sl (List.map TV.str v0.Locks),.int .i64 v0.Start,.int .i64 v0.Delta]⟩) (hi0 : o0 < τ.next) (Q : TEx → au) (hQ0 : ∀ v : Unit,r = (.ex v) → ∀ (fr : TF) (tk2 : TK) (τ2 : TH),tk2.take 0 = [] → τ2.cut τ.next = τ → Q (.exit 6) fr tk2 τ2) (hQ1 : ∀ v : Bool,r = (.rt v) → ∀ (tk2 : TK) (τ2 : TH),τ2.cut τ.next = τ → Q .ret [(2,.bool v)] tk2 τ2) ,tW G (.loop [1,6] mm) Q [(1,.ptr o0 0),(6,.int .i64 v1)] [] τ
theorem zak9 (v0 : aa) (v1 : Int) (r : LX (Unit) (Bool)) (h : cq v0 v1 = some r) : l5 v0 v1 r := by
  refine cy (f := fun st => dc v0 st) (P := fun st r => ∀ (v1 : Int),v1 = st → l5 v0 v1 r) ?_ h v1 rfl
  clear h r v1
  intro st o h r ih v1 hst τ o0  hl ha0 hi0 Q hQ0 hQ1
  subst hst
  have h : dc v0 v1 = some o := h
  unfold dc at h
  refine jm fun LQ hn hr he => ?_
  by_cases c1 : v1 < ((v0.Locks.length : Nat) : Int)
  · rw [if_pos c1] at h
    obtain ⟨y2,hy2,h⟩ := ob h
    have f3 := a9 hy2
    have f3a := (f3.2.2 TV.str).1
    have f3b := (f3.2.2 TV.str).2
    try simp only [CL,MC,Int.reduceToNat] at f3 f3a f3b
    by_cases c4 : (40 : Int) < ((y2.size : Nat) : Int)
    · rw [if_pos c4] at h
      injection h with h; subst h
      obtain rfl : _ = r := ih
      simp -implicitDefEqProofs only [mm,ax,TT,Ic.t,Ic.ci,Nat.reduceEqDiff,reduceIte,Nat.reduceAdd,Nat.reduceLT,reduceCtorEq,Int.reduceToNat,hl,ha0,hi0,he,hr,c1,f3.1,f3.2.1,f3a,f3b,c4,CL,LTN]
      exact hQ1 false rfl  _ _  (by first | exact bp (Nat.le_refl _) | (simp -implicitDefEqProofs only [TT,Ic.t,Ic.ci,Nat.reduceEqDiff,reduceIte,Nat.reduceAdd,Nat.reduceLT,reduceCtorEq,Int.reduceToNat,hl,ha0,hi0,c1,f3.1,f3.2.1,f3a,f3b,c4,CL,LTN]))
    rw [if_neg c4] at h
    injection h with h; subst h
    have ih := ih (IntKind.i64.wrap (v1 + (1 : Int))) rfl
    unfold l5 at ih
    simp -implicitDefEqProofs only [mm,ax,TT,Ic.t,Ic.ci,Nat.reduceEqDiff,reduceIte,Nat.reduceAdd,Nat.reduceLT,reduceCtorEq,Int.reduceToNat,hl,ha0,hi0,c1,f3.1,f3.2.1,f3a,f3b,c4,CL,LTN]
    rw [hn]
    simp -implicitDefEqProofs only [TT,Ic.t,Ic.ci,Nat.reduceEqDiff,reduceIte,Nat.reduceAdd,Nat.reduceLT,reduceCtorEq,Int.reduceToNat,hl,ha0,hi0,c1,f3.1,f3.2.1,f3a,f3b,c4,CL,LTN]
    exact ih  τ o0   (by first | assumption | (simp only [ag,ah]; assumption)) (by simp -implicitDefEqProofs only [TT,Ic.t,Ic.ci,Nat.reduceEqDiff,reduceIte,Nat.reduceAdd,Nat.reduceLT,reduceCtorEq,Int.reduceToNat,hl,ha0,hi0,c1,f3.1,f3.2.1,f3a,f3b,c4,CL,LTN]) (by first | assumption | (simp only [ag,ah]; assumption)) Q hQ0 hQ1
  rw [if_neg c1] at h
  injection h with h; subst h
  obtain rfl : _ = r := ih
  simp -implicitDefEqProofs only [mm,ax,TT,Ic.t,Ic.ci,Nat.reduceEqDiff,reduceIte,Nat.reduceAdd,Nat.reduceLT,reduceCtorEq,Int.reduceToNat,hl,ha0,hi0,he,hr,c1,CL,LTN]
  exact hQ0 () rfl  _ _ _   (by first | rfl | (simp -implicitDefEqProofs only [TT,Ic.t,Ic.ci,Nat.reduceEqDiff,reduceIte,Nat.reduceAdd,Nat.reduceLT,reduceCtorEq,Int.reduceToNat,hl,ha0,hi0,c1,CL,LTN])) (by first | exact bp (Nat.le_refl _) | (simp -implicitDefEqProofs only [TT,Ic.t,Ic.ci,Nat.reduceEqDiff,reduceIte,Nat.reduceAdd,Nat.reduceLT,reduceCtorEq,Int.reduceToNat,hl,ha0,hi0,c1,CL,LTN]))
noncomputable def kf (p1 : aa) : Option Bool :=
 if (10 : Int) < ((p1.Parties.length : Nat) : Int) then
  some false
 else
 if (20 : Int) < ((p1.Arcs.length : Nat) : Int) then
  some false
 else
 if (6 : Int) < ((p1.Leaders.length : Nat) : Int) then
  some false
 else
 if (6 : Int) < ((p1.Locks.length : Nat) : Int) then
  some false
 else
 if (40 : Int) < ((p1.ID.size : Nat) : Int) then
  some false
 else
 eg p1 (0 : Int) >>= fun y6 =>
 match y6 with
 | .ex w7 =>
  cv p1 (0 : Int) >>= fun y11 =>
  match y11 with
  | .ex w12 =>
   cq p1 (0 : Int) >>= fun y16 =>
   match y16 with
   | .ex w17 =>
    some true
   | .rt w19 =>
    some w19
  | .rt w14 =>
   some w14
 | .rt w9 =>
  some w9
theorem zael (p1 : aa) (r : Bool) (h : kf p1 = some r) (τ : TH) (hl : τ.lock ≤ τ.next) : Ru G nz [.agg [.str p1.ID,.sl (List.map ac.tv p1.Parties),.sl (List.map af.tv p1.Arcs),.sl (List.map (TV.int .i64) p1.Leaders),.sl (List.map TV.str p1.Locks),.int .i64 p1.Start,.int .i64 p1.Delta]] τ (.bool r) τ := by
  refine jk fun K hK => ?_
  rw [b7 zavj (Nat.le_of_ble_eq_true rfl)]
  unfold kf at h
  by_cases c1 : (10 : Int) < ((p1.Parties.length : Nat) : Int)
  · rw [if_pos c1] at h
    injection h with h; subst h
    simp -implicitDefEqProofs only [ax,TT,Ic.t,Ic.ci,Nat.reduceEqDiff,reduceIte,Nat.reduceAdd,Nat.reduceLT,reduceCtorEq,Int.reduceToNat,hl,c1,CL,LTN]
    exact hK
  rw [if_neg c1] at h
  by_cases c2 : (20 : Int) < ((p1.Arcs.length : Nat) : Int)
  · rw [if_pos c2] at h
    injection h with h; subst h
    simp -implicitDefEqProofs only [ax,TT,Ic.t,Ic.ci,Nat.reduceEqDiff,reduceIte,Nat.reduceAdd,Nat.reduceLT,reduceCtorEq,Int.reduceToNat,hl,c1,c2,CL,LTN]
    exact hK
  rw [if_neg c2] at h
  by_cases c3 : (6 : Int) < ((p1.Leaders.length : Nat) : Int)
  · rw [if_pos c3] at h
    injection h with h; subst h
    simp -implicitDefEqProofs only [ax,TT,Ic.t,Ic.ci,Nat.reduceEqDiff,reduceIte,Nat.reduceAdd,Nat.reduceLT,reduceCtorEq,Int.reduceToNat,hl,c1,c2,c3,CL,LTN]
    exact hK
  rw [if_neg c3] at h
  by_cases c4 : (6 : Int) < ((p1.Locks.length : Nat) : Int)
  · rw [if_pos c4] at h
    injection h with h; subst h
    simp -implicitDefEqProofs only [ax,TT,Ic.t,Ic.ci,Nat.reduceEqDiff,reduceIte,Nat.reduceAdd,Nat.reduceLT,reduceCtorEq,Int.reduceToNat,hl,c1,c2,c3,c4,CL,LTN]
    exact hK
  rw [if_neg c4] at h
  by_cases c5 : (40 : Int) < ((p1.ID.size : Nat) : Int)
  · rw [if_pos c5] at h
    injection h with h; subst h
    simp -implicitDefEqProofs only [ax,TT,Ic.t,Ic.ci,Nat.reduceEqDiff,reduceIte,Nat.reduceAdd,Nat.reduceLT,reduceCtorEq,Int.reduceToNat,hl,c1,c2,c3,c4,c5,CL,LTN]
    exact hK
  rw [if_neg c5] at h
  obtain ⟨y6,hy6,h⟩ := ob h
  simp -implicitDefEqProofs only [ax,TT,Ic.t,Ic.ci,Nat.reduceEqDiff,reduceIte,Nat.reduceAdd,Nat.reduceLT,reduceCtorEq,Int.reduceToNat,hl,c1,c2,c3,c4,c5,CL,LTN]
  have Sy6 := zalc p1 (0 : Int) y6 hy6
  unfold l9 at Sy6
  refine Sy6 _ τ.next (by first | assumption | omega | (simp only [ag,aj,ah,av]; omega)) (by simp -implicitDefEqProofs only [TT,Ic.t,Ic.ci,Nat.reduceEqDiff,reduceIte,Nat.reduceAdd,Nat.reduceLT,reduceCtorEq,Int.reduceToNat,hl,c1,c2,c3,c4,c5,CL,LTN]) (by first | assumption | omega | (simp only [ag,aj,ah,av]; omega)) _ ?_ ?_
  · intro w7 e frq8 tkq8 τq8 g1q8 htq8 hcq8
    subst e
    simp only at h
    have hcq8 := bq (n := τ.next + 1) hcq8 (by first | omega | (simp only [ag,aj]; omega))
    try simp only [List.take_succ_cons,List.take_zero,List.take_nil,CL] at htq8
    try simp -implicitDefEqProofs only [TT,Ic.t,Ic.ci,Nat.reduceEqDiff,reduceIte,Nat.reduceAdd,Nat.reduceLT,reduceCtorEq,Int.reduceToNat,hl,c1,c2,c3,c4,c5,CL,LTN] at hcq8
    obtain ⟨y11,hy11,h⟩ := ob h
    simp -implicitDefEqProofs only [ax,TT,Ic.t,Ic.ci,Nat.reduceEqDiff,reduceIte,Nat.reduceAdd,Nat.reduceLT,reduceCtorEq,Int.reduceToNat,hl,c1,c2,c3,c4,c5,g1q8,htq8,hcq8,CL,LTN]
    have Sy11 := zala p1 (0 : Int) y11 hy11
    unfold l6 at Sy11
    refine Sy11 _ τ.next (by first | assumption | omega | (simp only [ag,aj,ah,av]; omega)) (by simp -implicitDefEqProofs only [TT,Ic.t,Ic.ci,Nat.reduceEqDiff,reduceIte,Nat.reduceAdd,Nat.reduceLT,reduceCtorEq,Int.reduceToNat,hl,c1,c2,c3,c4,c5,g1q8,htq8,hcq8,CL,LTN]) (by first | assumption | omega | (simp only [ag,aj,ah,av]; omega)) _ ?_ ?_
    · intro w12 e frq13 tkq13 τq13 g1q13 htq13 hcq13
      subst e
      simp only at h
      have hcq13 := bq (n := τ.next + 1) hcq13 (by first | omega | (simp only [ag,aj]; omega))
      try simp only [List.take_succ_cons,List.take_zero,List.take_nil,CL] at htq13
      try simp -implicitDefEqProofs only [TT,Ic.t,Ic.ci,Nat.reduceEqDiff,reduceIte,Nat.reduceAdd,Nat.reduceLT,reduceCtorEq,Int.reduceToNat,hl,c1,c2,c3,c4,c5,g1q8,htq8,hcq8,CL,LTN] at hcq13
      obtain ⟨y16,hy16,h⟩ := ob h
      simp -implicitDefEqProofs only [ax,TT,Ic.t,Ic.ci,Nat.reduceEqDiff,reduceIte,Nat.reduceAdd,Nat.reduceLT,reduceCtorEq,Int.reduceToNat,hl,c1,c2,c3,c4,c5,g1q8,htq8,hcq8,g1q13,htq13,hcq13,CL,LTN]
      have Sy16 := zak9 p1 (0 : Int) y16 hy16
      unfold l5 at Sy16
      refine Sy16 _ τ.next (by first | assumption | omega | (simp only [ag,aj,ah,av]; omega)) (by simp -implicitDefEqProofs only [TT,Ic.t,Ic.ci,Nat.reduceEqDiff,reduceIte,Nat.reduceAdd,Nat.reduceLT,reduceCtorEq,Int.reduceToNat,hl,c1,c2,c3,c4,c5,g1q8,htq8,hcq8,g1q13,htq13,hcq13,CL,LTN]) (by first | assumption | omega | (simp only [ag,aj,ah,av]; omega)) _ ?_ ?_
      · intro w17 e frq18 tkq18 τq18 htq18 hcq18
        subst e
        simp only at h
        have hcq18 := bq (n := τ.next + 1) hcq18 (by first | omega | (simp only [ag,aj]; omega))
        try simp only [List.take_succ_cons,List.take_zero,List.take_nil,CL] at htq18
        try simp -implicitDefEqProofs only [TT,Ic.t,Ic.ci,Nat.reduceEqDiff,reduceIte,Nat.reduceAdd,Nat.reduceLT,reduceCtorEq,Int.reduceToNat,hl,c1,c2,c3,c4,c5,g1q8,htq8,hcq8,g1q13,htq13,hcq13,CL,LTN] at hcq18
        injection h with h; subst h
        simp -implicitDefEqProofs only [ax,TT,Ic.t,Ic.ci,Nat.reduceEqDiff,reduceIte,Nat.reduceAdd,Nat.reduceLT,reduceCtorEq,Int.reduceToNat,hl,c1,c2,c3,c4,c5,g1q8,htq8,hcq8,g1q13,htq13,hcq13,htq18,hcq18,CL,LTN]
        exact hK
      intro w19 e tkq20 τq20 hcq20
      subst e
      simp only at h
      have hcq20 := bq (n := τ.next) hcq20 (by first | omega | (simp only [ag,aj]; omega))
      try simp -implicitDefEqProofs only [TT,Ic.t,Ic.ci,Nat.reduceEqDiff,reduceIte,Nat.reduceAdd,Nat.reduceLT,reduceCtorEq,Int.reduceToNat,hl,c1,c2,c3,c4,c5,g1q8,htq8,hcq8,g1q13,htq13,hcq13,CL,LTN] at hcq20
      injection h with h; subst h
      simp -implicitDefEqProofs only [ax,TT,Ic.t,Ic.ci,Nat.reduceEqDiff,reduceIte,Nat.reduceAdd,Nat.reduceLT,reduceCtorEq,Int.reduceToNat,hl,c1,c2,c3,c4,c5,g1q8,htq8,hcq8,g1q13,htq13,hcq13,hcq20,CL,LTN]
      exact hK
    intro w14 e tkq15 τq15 hcq15
    subst e
    simp only at h
    have hcq15 := bq (n := τ.next) hcq15 (by first | omega | (simp only [ag,aj]; omega))
    try simp -implicitDefEqProofs only [TT,Ic.t,Ic.ci,Nat.reduceEqDiff,reduceIte,Nat.reduceAdd,Nat.reduceLT,reduceCtorEq,Int.reduceToNat,hl,c1,c2,c3,c4,c5,g1q8,htq8,hcq8,CL,LTN] at hcq15
    injection h with h; subst h
    simp -implicitDefEqProofs only [ax,TT,Ic.t,Ic.ci,Nat.reduceEqDiff,reduceIte,Nat.reduceAdd,Nat.reduceLT,reduceCtorEq,Int.reduceToNat,hl,c1,c2,c3,c4,c5,g1q8,htq8,hcq8,hcq15,CL,LTN]
    exact hK
  intro w9 e tkq10 τq10 hcq10
  subst e
  simp only at h
  have hcq10 := bq (n := τ.next) hcq10 (by first | omega | (simp only [ag,aj]; omega))
  try simp -implicitDefEqProofs only [TT,Ic.t,Ic.ci,Nat.reduceEqDiff,reduceIte,Nat.reduceAdd,Nat.reduceLT,reduceCtorEq,Int.reduceToNat,hl,c1,c2,c3,c4,c5,CL,LTN] at hcq10
  injection h with h; subst h
  simp -implicitDefEqProofs only [ax,TT,Ic.t,Ic.ci,Nat.reduceEqDiff,reduceIte,Nat.reduceAdd,Nat.reduceLT,reduceCtorEq,Int.reduceToNat,hl,c1,c2,c3,c4,c5,hcq10,CL,LTN]
  exact hK
theorem zarv (p1 : aa) (r : Bool) (h : kf p1 = some r) (lk : Bool) (d : Option Nat) (K : au) (fr : TF) (tk : TK) (τ : TH) (hl : τ.lock ≤ τ.next) : fv G lk nz [.agg [.str p1.ID,.sl (List.map ac.tv p1.Parties),.sl (List.map af.tv p1.Arcs),.sl (List.map (TV.int .i64) p1.Leaders),.sl (List.map TV.str p1.Locks),.int .i64 p1.Start,.int .i64 p1.Delta]] d K fr tk τ = K (fu fr d (.bool r)) tk τ :=
  aw (zael p1 r h τ  hl) (zael p1 r h (τ.locked τ.next)  (Nat.le_refl _) ) (by simp -implicitDefEqProofs only [TT,Ic.t,Ic.ci,Nat.reduceEqDiff,reduceIte,Nat.reduceAdd,Nat.reduceLT,reduceCtorEq,Int.reduceToNat,hl,CL,LTN])
noncomputable def mg (p1 : ByteArray) : Option Bool :=
 if (1 : Int) ≤ ((p1.size : Nat) : Int) then
  some (decide (((p1.size : Nat) : Int) ≤ (16 : Int)))
 else
 some false
theorem zaii (p1 : ByteArray) (r : Bool) (h : mg p1 = some r) (τ : TH) (hl : τ.lock ≤ τ.next) : Ru G m9 [.str p1] τ (.bool r) τ := by
  refine jk fun K hK => ?_
  rw [b7 za12 (Nat.le_of_ble_eq_true rfl)]
  unfold mg at h
  by_cases c1 : (1 : Int) ≤ ((p1.size : Nat) : Int)
  · rw [if_pos c1] at h
    injection h with h; subst h
    simp -implicitDefEqProofs only [zarm,TT,Ic.t,Ic.ci,Nat.reduceEqDiff,reduceIte,Nat.reduceAdd,Nat.reduceLT,reduceCtorEq,Int.reduceToNat,hl,c1,CL,LTN]
    exact hK
  rw [if_neg c1] at h
  injection h with h; subst h
  simp -implicitDefEqProofs only [zarm,TT,Ic.t,Ic.ci,Nat.reduceEqDiff,reduceIte,Nat.reduceAdd,Nat.reduceLT,reduceCtorEq,Int.reduceToNat,hl,c1,CL,LTN]
  exact hK
theorem zv (p1 : ByteArray) (r : Bool) (h : mg p1 = some r) (lk : Bool) (d : Option Nat) (K : au) (fr : TF) (tk : TK) (τ : TH) (hl : τ.lock ≤ τ.next) : fv G lk m9 [.str p1] d K fr tk τ = K (fu fr d (.bool r)) tk τ :=
  aw (zaii p1 r h τ  hl) (zaii p1 r h (τ.locked τ.next)  (Nat.le_refl _) ) (by simp -implicitDefEqProofs only [TT,Ic.t,Ic.ci,Nat.reduceEqDiff,reduceIte,Nat.reduceAdd,Nat.reduceLT,reduceCtorEq,Int.reduceToNat,hl,CL,LTN])
noncomputable def ir (p1 : Int) (p2 : Int) (p3 : Int) : Option Bool :=
 if p2 ≤ p1 then
  some (decide (p1 ≤ p3))
 else
 some false
theorem zapn (p1 : Int) (p2 : Int) (p3 : Int) (r : Bool) (h : ir p1 p2 p3 = some r) (τ : TH) (hl : τ.lock ≤ τ.next) : Ru G ix [.int .i64 p1,.int .i64 p2,.int .i64 p3] τ (.bool r) τ := by
  refine jk fun K hK => ?_
  rw [b7 g_spec_in (Nat.le_of_ble_eq_true rfl)]
  unfold ir at h
  by_cases c1 : p2 ≤ p1
  · rw [if_pos c1] at h
    injection h with h; subst h
    simp -implicitDefEqProofs only [za0n,TT,Ic.t,Ic.ci,Nat.reduceEqDiff,reduceIte,Nat.reduceAdd,Nat.reduceLT,reduceCtorEq,Int.reduceToNat,hl,c1,CL,LTN]
    exact hK
  rw [if_neg c1] at h
  injection h with h; subst h
  simp -implicitDefEqProofs only [za0n,TT,Ic.t,Ic.ci,Nat.reduceEqDiff,reduceIte,Nat.reduceAdd,Nat.reduceLT,reduceCtorEq,Int.reduceToNat,hl,c1,CL,LTN]
  exact hK
theorem jn (p1 : Int) (p2 : Int) (p3 : Int) (r : Bool) (h : ir p1 p2 p3 = some r) (lk : Bool) (d : Option Nat) (K : au) (fr : TF) (tk : TK) (τ : TH) (hl : τ.lock ≤ τ.next) : fv G lk ix [.int .i64 p1,.int .i64 p2,.int .i64 p3] d K fr tk τ = K (fu fr d (.bool r)) tk τ :=
  aw (zapn p1 p2 p3 r h τ  hl) (zapn p1 p2 p3 r h (τ.locked τ.next)  (Nat.le_refl _) ) (by simp -implicitDefEqProofs only [TT,Ic.t,Ic.ci,Nat.reduceEqDiff,reduceIte,Nat.reduceAdd,Nat.reduceLT,reduceCtorEq,Int.reduceToNat,hl,CL,LTN])
noncomputable def om (p1 : ByteArray) (p2 : Int) : Option Bool :=
 some (decide (¬ (((p1.size : Nat) : Int) = p2)))
theorem zaaj (p1 : ByteArray) (p2 : Int) (r : Bool) (h : om p1 p2 = some r) (τ : TH) (o0 : Nat) (hl : τ.lock ≤ τ.next) (ha0 : τ.at o0 = some ⟨ka,[.int .i64 p2]⟩) (hi0 : o0 < τ.next) : Ru G fa [.str p1,.ptr o0 0] τ (.bool r) τ := by
  refine jk fun K hK => ?_
  rw [b7 zar7 (Nat.le_of_ble_eq_true rfl)]
  unfold om at h
  injection h with h; subst h
  simp -implicitDefEqProofs only [zasg,TT,Ic.t,Ic.ci,Nat.reduceEqDiff,reduceIte,Nat.reduceAdd,Nat.reduceLT,reduceCtorEq,Int.reduceToNat,hl,ha0,hi0,CL,LTN]
  exact hK
theorem zan8 (p1 : ByteArray) (p2 : Int) (r : Bool) (h : om p1 p2 = some r) (lk : Bool) (d : Option Nat) (K : au) (fr : TF) (tk : TK) (τ : TH) (o0 : Nat) (hl : τ.lock ≤ τ.next) (ha0 : τ.at o0 = some ⟨ka,[.int .i64 p2]⟩) (hi0 : o0 < τ.next) : fv G lk fa [.str p1,.ptr o0 0] d K fr tk τ = K (fu fr d (.bool r)) tk τ :=
  aw (zaaj p1 p2 r h τ o0 hl ha0 hi0) (zaaj p1 p2 r h (τ.locked τ.next) o0 (Nat.le_refl _) (by rw [za0i]; exact ha0) hi0) (by simp -implicitDefEqProofs only [TT,Ic.t,Ic.ci,Nat.reduceEqDiff,reduceIte,Nat.reduceAdd,Nat.reduceLT,reduceCtorEq,Int.reduceToNat,hl,ha0,hi0,CL,LTN])
noncomputable def ar (v0 : (List ByteArray)) (v1 : Int) (v2 : Int) (v3 : Int) : Option (LS (Int) (LX (Unit) (Int))) :=
 if v3 < v2 then
  ixL v0 v3 >>= fun y2 =>
  om y2 v1 >>= fun y4 =>
  if y4 = true then
   some (.dn (.rt v3))
  else
  some (.nx (IntKind.i64.wrap (v3 + (1 : Int))))
 else
 some (.dn (.ex ()))
noncomputable def bd (v0 : (List ByteArray)) (v1 : Int) (v2 : Int) (v3 : Int) : Option (LX (Unit) (Int)) := ko (fun st => ar v0 v1 v2 st) v3
theorem g7 (v0 : (List ByteArray)) (v1 : Int) (v2 : Int) (v3 : Int) : bd v0 v1 v2 v3 = ar v0 v1 v2 v3 >>= LS.go (fun st => bd v0 v1 v2 st) := ei (fun st => ar v0 v1 v2 st) v3
def cn (v0 : (List ByteArray)) (v1 : Int) (v2 : Int) (v3 : Int) (r : LX (Unit) (Int)) : Prop := ∀ (τ : TH) (o0 : Nat) (hl : τ.lock ≤ τ.next) (ha0 : τ.at o0 = some ⟨ka,[.int .i64 v1]⟩) (hi0 : o0 < τ.next) (Q : TEx → au) (hQ0 : ∀ v : Unit,r = (.ex v) → ∀ (fr : TF) (tk2 : TK) (τ2 : TH),tk2.take 0 = [] → τ2.cut τ.next = τ → Q (.exit 0) fr tk2 τ2) (hQ1 : ∀ v : Int,r = (.rt v) → ∀ (tk2 : TK) (τ2 : TH),τ2.cut τ.next = τ → Q .ret [(4,.int .i64 v)] tk2 τ2) ,tW G (.loop [0,1,7,8] br) Q [(0,.sl (List.map TV.str v0)),(1,.func fa [] [.ptr o0 0]),(7,.int .i64 v2),(8,.int .i64 v3)] [] τ
theorem n5 (v0 : (List ByteArray)) (v1 : Int) (v2 : Int) (v3 : Int) (r : LX (Unit) (Int)) (h : bd v0 v1 v2 v3 = some r) : cn v0 v1 v2 v3 r := by
  refine cy (f := fun st => ar v0 v1 v2 st) (P := fun st r => ∀ (v3 : Int),v3 = st → cn v0 v1 v2 v3 r) ?_ h v3 rfl
  clear h r v3
  intro st o h r ih v3 hst τ o0  hl ha0 hi0 Q hQ0 hQ1
  subst hst
  have h : ar v0 v1 v2 v3 = some o := h
  unfold ar at h
  refine jm fun LQ hn hr he => ?_
  by_cases c1 : v3 < v2
  · rw [if_pos c1] at h
    obtain ⟨y2,hy2,h⟩ := ob h
    have f3 := a9 hy2
    have f3a := (f3.2.2 TV.str).1
    have f3b := (f3.2.2 TV.str).2
    try simp only [CL,MC,Int.reduceToNat] at f3 f3a f3b
    obtain ⟨y4,hy4,h⟩ := ob h
    have k5 := zan8 y2 v1 _ hy4
    try simp only [CL,MC,Int.reduceToNat] at k5
    by_cases c6 : y4 = true
    · rw [if_pos c6] at h
      injection h with h; subst h
      obtain rfl : _ = r := ih
      simp -implicitDefEqProofs only [br,bk,TT,Ic.t,Ic.ci,Nat.reduceEqDiff,reduceIte,Nat.reduceAdd,Nat.reduceLT,reduceCtorEq,Int.reduceToNat,hl,ha0,hi0,he,hr,c1,f3.1,f3.2.1,f3a,f3b,k5,c6,CL,LTN]
      exact hQ1 v3 rfl  _ _  (by first | exact bp (Nat.le_refl _) | (simp -implicitDefEqProofs only [TT,Ic.t,Ic.ci,Nat.reduceEqDiff,reduceIte,Nat.reduceAdd,Nat.reduceLT,reduceCtorEq,Int.reduceToNat,hl,ha0,hi0,c1,f3.1,f3.2.1,f3a,f3b,k5,c6,CL,LTN]))
    rw [if_neg c6] at h
    have c6 := Bool.eq_false_iff.2 c6
    injection h with h; subst h
    have ih := ih (IntKind.i64.wrap (v3 + (1 : Int))) rfl
    unfold cn at ih
    simp -implicitDefEqProofs only [br,bk,TT,Ic.t,Ic.ci,Nat.reduceEqDiff,reduceIte,Nat.reduceAdd,Nat.reduceLT,reduceCtorEq,Int.reduceToNat,hl,ha0,hi0,c1,f3.1,f3.2.1,f3a,f3b,k5,c6,CL,LTN]
    rw [hn]
    simp -implicitDefEqProofs only [TT,Ic.t,Ic.ci,Nat.reduceEqDiff,reduceIte,Nat.reduceAdd,Nat.reduceLT,reduceCtorEq,Int.reduceToNat,hl,ha0,hi0,c1,f3.1,f3.2.1,f3a,f3b,k5,c6,CL,LTN]
    exact ih  τ o0   (by first | assumption | (simp only [ag,ah]; assumption)) (by simp -implicitDefEqProofs only [TT,Ic.t,Ic.ci,Nat.reduceEqDiff,reduceIte,Nat.reduceAdd,Nat.reduceLT,reduceCtorEq,Int.reduceToNat,hl,ha0,hi0,c1,f3.1,f3.2.1,f3a,f3b,k5,c6,CL,LTN]) (by first | assumption | (simp only [ag,ah]; assumption)) Q hQ0 hQ1
  rw [if_neg c1] at h
  injection h with h; subst h
  obtain rfl : _ = r := ih
  simp -implicitDefEqProofs only [br,bk,TT,Ic.t,Ic.ci,Nat.reduceEqDiff,reduceIte,Nat.reduceAdd,Nat.reduceLT,reduceCtorEq,Int.reduceToNat,hl,ha0,hi0,he,hr,c1,CL,LTN]
  exact hQ0 () rfl  _ _ _   (by first | rfl | (simp -implicitDefEqProofs only [TT,Ic.t,Ic.ci,Nat.reduceEqDiff,reduceIte,Nat.reduceAdd,Nat.reduceLT,reduceCtorEq,Int.reduceToNat,hl,ha0,hi0,c1,CL,LTN])) (by first | exact bp (Nat.le_refl _) | (simp -implicitDefEqProofs only [TT,Ic.t,Ic.ci,Nat.reduceEqDiff,reduceIte,Nat.reduceAdd,Nat.reduceLT,reduceCtorEq,Int.reduceToNat,hl,ha0,hi0,c1,CL,LTN]))
noncomputable def ch (p1 : (List ByteArray)) (p2 : Int) : Option Int :=
 bd p1 p2 ((p1.length : Nat) : Int) (0 : Int) >>= fun y1 =>
 match y1 with
 | .ex w2 =>
  some (-1 : Int)
 | .rt w4 =>
  some w4
theorem iy (p1 : (List ByteArray)) (p2 : Int) (r : Int) (h : ch p1 p2 = some r) (τ : TH) (o0 : Nat) (hl : τ.lock ≤ τ.next) (ha0 : τ.at o0 = some ⟨ka,[.int .i64 p2]⟩) (hi0 : o0 < τ.next) : Ru G bl [.sl (List.map TV.str p1),.func fa [] [.ptr o0 0]] τ (.int .i64 r) τ := by
  refine jk fun K hK => ?_
  rw [b7 r7 (Nat.le_of_ble_eq_true rfl)]
  unfold ch at h
  obtain ⟨y1,hy1,h⟩ := ob h
  simp -implicitDefEqProofs only [bk,TT,Ic.t,Ic.ci,Nat.reduceEqDiff,reduceIte,Nat.reduceAdd,Nat.reduceLT,reduceCtorEq,Int.reduceToNat,hl,ha0,hi0,CL,LTN]
  have Sy1 := n5 p1 p2 ((p1.length : Nat) : Int) (0 : Int) y1 hy1
  unfold cn at Sy1
  refine Sy1 _ o0 (by first | assumption | omega | (simp only [ag,aj,ah,av]; omega)) (by simp -implicitDefEqProofs only [TT,Ic.t,Ic.ci,Nat.reduceEqDiff,reduceIte,Nat.reduceAdd,Nat.reduceLT,reduceCtorEq,Int.reduceToNat,hl,ha0,hi0,CL,LTN]) (by first | assumption | omega | (simp only [ag,aj,ah,av]; omega)) _ ?_ ?_
  · intro w2 e frq3 tkq3 τq3 htq3 hcq3
    subst e
    simp only at h
    have hcq3 := bq (n := τ.next) hcq3 (by first | omega | (simp only [ag,aj]; omega))
    try simp only [List.take_succ_cons,List.take_zero,List.take_nil,CL] at htq3
    try simp -implicitDefEqProofs only [TT,Ic.t,Ic.ci,Nat.reduceEqDiff,reduceIte,Nat.reduceAdd,Nat.reduceLT,reduceCtorEq,Int.reduceToNat,hl,ha0,hi0,CL,LTN] at hcq3
    injection h with h; subst h
    simp -implicitDefEqProofs only [bk,TT,Ic.t,Ic.ci,Nat.reduceEqDiff,reduceIte,Nat.reduceAdd,Nat.reduceLT,reduceCtorEq,Int.reduceToNat,hl,ha0,hi0,htq3,hcq3,CL,LTN]
    exact hK
  intro w4 e tkq5 τq5 hcq5
  subst e
  simp only at h
  have hcq5 := bq (n := τ.next) hcq5 (by first | omega | (simp only [ag,aj]; omega))
  try simp -implicitDefEqProofs only [TT,Ic.t,Ic.ci,Nat.reduceEqDiff,reduceIte,Nat.reduceAdd,Nat.reduceLT,reduceCtorEq,Int.reduceToNat,hl,ha0,hi0,CL,LTN] at hcq5
  injection h with h; subst h
  simp -implicitDefEqProofs only [bk,TT,Ic.t,Ic.ci,Nat.reduceEqDiff,reduceIte,Nat.reduceAdd,Nat.reduceLT,reduceCtorEq,Int.reduceToNat,hl,ha0,hi0,hcq5,CL,LTN]
  exact hK
theorem re (p1 : (List ByteArray)) (p2 : Int) (r : Int) (h : ch p1 p2 = some r) (lk : Bool) (d : Option Nat) (K : au) (fr : TF) (tk : TK) (τ : TH) (o0 : Nat) (hl : τ.lock ≤ τ.next) (ha0 : τ.at o0 = some ⟨ka,[.int .i64 p2]⟩) (hi0 : o0 < τ.next) : fv G lk bl [.sl (List.map TV.str p1),.func fa [] [.ptr o0 0]] d K fr tk τ = K (fu fr d (.int .i64 r)) tk τ :=
  aw (iy p1 p2 r h τ o0 hl ha0 hi0) (iy p1 p2 r h (τ.locked τ.next) o0 (Nat.le_refl _) (by rw [za0i]; exact ha0) hi0) (by simp -implicitDefEqProofs only [TT,Ic.t,Ic.ci,Nat.reduceEqDiff,reduceIte,Nat.reduceAdd,Nat.reduceLT,reduceCtorEq,Int.reduceToNat,hl,ha0,hi0,CL,LTN])
noncomputable def bf (p1 : (List ByteArray)) (p2 : Int) : Option Bool :=
 ch p1 p2 >>= fun y1 =>
 some (decide ((0 : Int) ≤ y1))
theorem g9 (p1 : (List ByteArray)) (p2 : Int) (r : Bool) (h : bf p1 p2 = some r) (τ : TH) (o0 : Nat) (hl : τ.lock ≤ τ.next) (ha0 : τ.at o0 = some ⟨ka,[.int .i64 p2]⟩) (hi0 : o0 < τ.next) : Ru G bg [.sl (List.map TV.str p1),.func fa [] [.ptr o0 0]] τ (.bool r) τ := by
  refine jk fun K hK => ?_
  rw [b7 py (Nat.le_of_ble_eq_true rfl)]
  unfold bf at h
  obtain ⟨y1,hy1,h⟩ := ob h
  have k2 := re p1 p2 _ hy1
  try simp only [CL,MC,Int.reduceToNat] at k2
  injection h with h; subst h
  simp -implicitDefEqProofs only [p9,TT,Ic.t,Ic.ci,Nat.reduceEqDiff,reduceIte,Nat.reduceAdd,Nat.reduceLT,reduceCtorEq,Int.reduceToNat,hl,ha0,hi0,k2,CL,LTN]
  exact hK
theorem n6 (p1 : (List ByteArray)) (p2 : Int) (r : Bool) (h : bf p1 p2 = some r) (lk : Bool) (d : Option Nat) (K : au) (fr : TF) (tk : TK) (τ : TH) (o0 : Nat) (hl : τ.lock ≤ τ.next) (ha0 : τ.at o0 = some ⟨ka,[.int .i64 p2]⟩) (hi0 : o0 < τ.next) : fv G lk bg [.sl (List.map TV.str p1),.func fa [] [.ptr o0 0]] d K fr tk τ = K (fu fr d (.bool r)) tk τ :=
  aw (g9 p1 p2 r h τ o0 hl ha0 hi0) (g9 p1 p2 r h (τ.locked τ.next) o0 (Nat.le_refl _) (by rw [za0i]; exact ha0) hi0) (by simp -implicitDefEqProofs only [TT,Ic.t,Ic.ci,Nat.reduceEqDiff,reduceIte,Nat.reduceAdd,Nat.reduceLT,reduceCtorEq,Int.reduceToNat,hl,ha0,hi0,CL,LTN])
noncomputable def mf (p1 : (List ByteArray)) (p2 : Int) (p3 : Int) : Option Bool :=
 if ((p1.length : Nat) : Int) = p2 then
  bf p1 p3 >>= fun y2 =>
  some (!y2)
 else
 some false
theorem zae4 (p1 : (List ByteArray)) (p2 : Int) (p3 : Int) (r : Bool) (h : mf p1 p2 p3 = some r) (τ : TH) (hl : τ.lock ≤ τ.next) : Ru G m7 [.sl (List.map TV.str p1),.int .i64 p2,.int .i64 p3] τ (.bool r) τ := by
  refine jk fun K hK => ?_
  rw [b7 zayx (Nat.le_of_ble_eq_true rfl)]
  unfold mf at h
  by_cases c1 : ((p1.length : Nat) : Int) = p2
  · rw [if_pos c1] at h
    obtain ⟨y2,hy2,h⟩ := ob h
    have k3 := n6 p1 p3 _ hy2
    try simp only [CL,MC,Int.reduceToNat] at k3
    injection h with h; subst h
    simp -implicitDefEqProofs only [zanz,TT,Ic.t,Ic.ci,Nat.reduceEqDiff,reduceIte,Nat.reduceAdd,Nat.reduceLT,reduceCtorEq,Int.reduceToNat,hl,eq_true c1,k3,CL,LTN]
    exact hK
  rw [if_neg c1] at h
  injection h with h; subst h
  simp -implicitDefEqProofs only [zanz,TT,Ic.t,Ic.ci,Nat.reduceEqDiff,reduceIte,Nat.reduceAdd,Nat.reduceLT,reduceCtorEq,Int.reduceToNat,hl,c1,CL,LTN]
  exact hK
theorem zae5 (p1 : (List ByteArray)) (p2 : Int) (p3 : Int) (r : Bool) (h : mf p1 p2 p3 = some r) (lk : Bool) (d : Option Nat) (K : au) (fr : TF) (tk : TK) (τ : TH) (hl : τ.lock ≤ τ.next) : fv G lk m7 [.sl (List.map TV.str p1),.int .i64 p2,.int .i64 p3] d K fr tk τ = K (fu fr d (.bool r)) tk τ :=
  aw (zae4 p1 p2 p3 r h τ  hl) (zae4 p1 p2 p3 r h (τ.locked τ.next)  (Nat.le_refl _) ) (by simp -implicitDefEqProofs only [TT,Ic.t,Ic.ci,Nat.reduceEqDiff,reduceIte,Nat.reduceAdd,Nat.reduceLT,reduceCtorEq,Int.reduceToNat,hl,CL,LTN])
noncomputable def up (p1 : af) (p2 : Int) : Option Bool :=
 ir p1.From (0 : Int) (IntKind.i64.wrap (p2 - (1 : Int))) >>= fun y1 =>
 if y1 = true then
  ir p1.To (0 : Int) (IntKind.i64.wrap (p2 - (1 : Int))) >>= fun y4 =>
  if y4 = true then
   if p1.From = p1.To then
    some false
   else
   ir p1.Ledger (0 : Int) (3 : Int) >>= fun y8 =>
   if y8 = true then
    mg p1.Asset >>= fun y11 =>
    if y11 = true then
     ir p1.Amount (1 : Int) (1125899906842624 : Int) >>= fun y14 =>
     some y14
    else
    some false
   else
   some false
  else
  some false
 else
 some false
theorem zame (p1 : af) (p2 : Int) (r : Bool) (h : up p1 p2 = some r) (τ : TH) (hl : τ.lock ≤ τ.next) : Ru G uw [.agg [.int .i64 p1.From,.int .i64 p1.To,.int .i64 p1.Ledger,.str p1.Asset,.int .i64 p1.Amount],.int .i64 p2] τ (.bool r) τ := by
  refine jk fun K hK => ?_
  rw [b7 g_spec_arc (Nat.le_of_ble_eq_true rfl)]
  unfold up at h
  obtain ⟨y1,hy1,h⟩ := ob h
  have k2 := jn p1.From (0 : Int) (IntKind.i64.wrap (p2 - (1 : Int))) _ hy1
  try simp only [CL,MC,Int.reduceToNat] at k2
  by_cases c3 : y1 = true
  · rw [if_pos c3] at h
    obtain ⟨y4,hy4,h⟩ := ob h
    have k5 := jn p1.To (0 : Int) (IntKind.i64.wrap (p2 - (1 : Int))) _ hy4
    try simp only [CL,MC,Int.reduceToNat] at k5
    by_cases c6 : y4 = true
    · rw [if_pos c6] at h
      by_cases c7 : p1.From = p1.To
      · rw [if_pos c7] at h
        injection h with h; subst h
        simp -implicitDefEqProofs only [ut,TT,Ic.t,Ic.ci,Nat.reduceEqDiff,reduceIte,Nat.reduceAdd,Nat.reduceLT,reduceCtorEq,Int.reduceToNat,hl,k2,c3,k5,c6,eq_true c7,CL,LTN]
        exact hK
      rw [if_neg c7] at h
      obtain ⟨y8,hy8,h⟩ := ob h
      have k9 := jn p1.Ledger (0 : Int) (3 : Int) _ hy8
      try simp only [CL,MC,Int.reduceToNat] at k9
      by_cases c10 : y8 = true
      · rw [if_pos c10] at h
        obtain ⟨y11,hy11,h⟩ := ob h
        have k12 := zv p1.Asset _ hy11
        try simp only [CL,MC,Int.reduceToNat] at k12
        by_cases c13 : y11 = true
        · rw [if_pos c13] at h
          obtain ⟨y14,hy14,h⟩ := ob h
          have k15 := jn p1.Amount (1 : Int) (1125899906842624 : Int) _ hy14
          try simp only [CL,MC,Int.reduceToNat] at k15
          injection h with h; subst h
          simp -implicitDefEqProofs only [ut,TT,Ic.t,Ic.ci,Nat.reduceEqDiff,reduceIte,Nat.reduceAdd,Nat.reduceLT,reduceCtorEq,Int.reduceToNat,hl,k2,c3,k5,c6,c7,k9,c10,k12,c13,k15,CL,LTN]
          exact hK
        rw [if_neg c13] at h
        have c13 := Bool.eq_false_iff.2 c13
        injection h with h; subst h
        simp -implicitDefEqProofs only [ut,TT,Ic.t,Ic.ci,Nat.reduceEqDiff,reduceIte,Nat.reduceAdd,Nat.reduceLT,reduceCtorEq,Int.reduceToNat,hl,k2,c3,k5,c6,c7,k9,c10,k12,c13,CL,LTN]
        exact hK
      rw [if_neg c10] at h
      have c10 := Bool.eq_false_iff.2 c10
      injection h with h; subst h
      simp -implicitDefEqProofs only [ut,TT,Ic.t,Ic.ci,Nat.reduceEqDiff,reduceIte,Nat.reduceAdd,Nat.reduceLT,reduceCtorEq,Int.reduceToNat,hl,k2,c3,k5,c6,c7,k9,c10,CL,LTN]
      exact hK
    rw [if_neg c6] at h
    have c6 := Bool.eq_false_iff.2 c6
    injection h with h; subst h
    simp -implicitDefEqProofs only [ut,TT,Ic.t,Ic.ci,Nat.reduceEqDiff,reduceIte,Nat.reduceAdd,Nat.reduceLT,reduceCtorEq,Int.reduceToNat,hl,k2,c3,k5,c6,CL,LTN]
    exact hK
  rw [if_neg c3] at h
  have c3 := Bool.eq_false_iff.2 c3
  injection h with h; subst h
  simp -implicitDefEqProofs only [ut,TT,Ic.t,Ic.ci,Nat.reduceEqDiff,reduceIte,Nat.reduceAdd,Nat.reduceLT,reduceCtorEq,Int.reduceToNat,hl,k2,c3,CL,LTN]
  exact hK
theorem zawy (p1 : af) (p2 : Int) (r : Bool) (h : up p1 p2 = some r) (lk : Bool) (d : Option Nat) (K : au) (fr : TF) (tk : TK) (τ : TH) (hl : τ.lock ≤ τ.next) : fv G lk uw [.agg [.int .i64 p1.From,.int .i64 p1.To,.int .i64 p1.Ledger,.str p1.Asset,.int .i64 p1.Amount],.int .i64 p2] d K fr tk τ = K (fu fr d (.bool r)) tk τ :=
  aw (zame p1 p2 r h τ  hl) (zame p1 p2 r h (τ.locked τ.next)  (Nat.le_refl _) ) (by simp -implicitDefEqProofs only [TT,Ic.t,Ic.ci,Nat.reduceEqDiff,reduceIte,Nat.reduceAdd,Nat.reduceLT,reduceCtorEq,Int.reduceToNat,hl,CL,LTN])
end Go.Proofs.Ytdcfoaafkppojaa
