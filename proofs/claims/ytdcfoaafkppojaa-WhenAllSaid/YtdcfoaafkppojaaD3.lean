/- Functions of numbers and lists, printed by a program of ours out of the code for the tree level, with their proofs. -/
import Derived.Test.YtdcfoaafkppojaaD2
set_option linter.unusedVariables false
set_option linter.unusedSimpArgs false
set_option linter.unusedSectionVars false
namespace Go.Proofs.Ytdcfoaafkppojaa
open Go Go.RowKit Sh Ic
noncomputable def cj (v0 : (List Int)) (v1 : (List Int)) (v2 : Int) : Option (LS (Int) (LX (Unit) (Bool))) :=
 if v2 < ((v0.length : Nat) : Int) then
  ixL v0 v2 >>= fun y2 =>
  ixL v1 v2 >>= fun y4 =>
  if y2 = y4 then
   some (.nx (IntKind.i64.wrap (v2 + (1 : Int))))
  else
  some (.dn (.rt false))
 else
 some (.dn (.ex ()))
noncomputable def du (v0 : (List Int)) (v1 : (List Int)) (v2 : Int) : Option (LX (Unit) (Bool)) := ko (fun st => cj v0 v1 st) v2
theorem uf (v0 : (List Int)) (v1 : (List Int)) (v2 : Int) : du v0 v1 v2 = cj v0 v1 v2 >>= LS.go (fun st => du v0 v1 st) := ei (fun st => cj v0 v1 st) v2
def kd (v0 : (List Int)) (v1 : (List Int)) (v2 : Int) (r : LX (Unit) (Bool)) : Prop := ∀ (τ : TH) (hl : τ.lock ≤ τ.next) (Q : TEx → au) (hQ0 : ∀ v : Unit,r = (.ex v) → ∀ (fr : TF) (tk2 : TK) (τ2 : TH),tk2.take 0 = [] → τ2.cut τ.next = τ → Q (.exit 0) fr tk2 τ2) (hQ1 : ∀ v : Bool,r = (.rt v) → ∀ (tk2 : TK) (τ2 : TH),τ2.cut τ.next = τ → Q .ret [(4,.bool v)] tk2 τ2) ,tW G (.loop [0,1,5] kh) Q [(0,.sl (List.map (TV.int .i64) v0)),(1,.sl (List.map (TV.int .i64) v1)),(5,.int .i64 v2)] [] τ
theorem zah6 (v0 : (List Int)) (v1 : (List Int)) (v2 : Int) (r : LX (Unit) (Bool)) (h : du v0 v1 v2 = some r) : kd v0 v1 v2 r := by
  refine cy (f := fun st => cj v0 v1 st) (P := fun st r => ∀ (v2 : Int),v2 = st → kd v0 v1 v2 r) ?_ h v2 rfl
  clear h r v2
  intro st o h r ih v2 hst τ  hl Q hQ0 hQ1
  subst hst
  have h : cj v0 v1 v2 = some o := h
  unfold cj at h
  refine jm fun LQ hn hr he => ?_
  by_cases c1 : v2 < ((v0.length : Nat) : Int)
  · rw [if_pos c1] at h
    obtain ⟨y2,hy2,h⟩ := ob h
    have f3 := a9 hy2
    have f3a := (f3.2.2 (TV.int .i64)).1
    have f3b := (f3.2.2 (TV.int .i64)).2
    try simp only [CL,MC,Int.reduceToNat] at f3 f3a f3b
    obtain ⟨y4,hy4,h⟩ := ob h
    have f5 := a9 hy4
    have f5a := (f5.2.2 (TV.int .i64)).1
    have f5b := (f5.2.2 (TV.int .i64)).2
    try simp only [CL,MC,Int.reduceToNat] at f5 f5a f5b
    by_cases c6 : y2 = y4
    · rw [if_pos c6] at h
      injection h with h; subst h
      have ih := ih (IntKind.i64.wrap (v2 + (1 : Int))) rfl
      unfold kd at ih
      simp -implicitDefEqProofs only [kh,jp,TT,Ic.t,Ic.ci,Nat.reduceEqDiff,reduceIte,Nat.reduceAdd,Nat.reduceLT,reduceCtorEq,Int.reduceToNat,hl,c1,f3.1,f3.2.1,f3a,f3b,f5.1,f5.2.1,f5a,f5b,eq_true c6,CL,LTN]
      rw [hn]
      simp -implicitDefEqProofs only [TT,Ic.t,Ic.ci,Nat.reduceEqDiff,reduceIte,Nat.reduceAdd,Nat.reduceLT,reduceCtorEq,Int.reduceToNat,hl,c1,f3.1,f3.2.1,f3a,f3b,f5.1,f5.2.1,f5a,f5b,eq_true c6,CL,LTN]
      exact ih  τ    (by first | assumption | (simp only [ag,ah]; assumption)) Q hQ0 hQ1
    rw [if_neg c6] at h
    injection h with h; subst h
    obtain rfl : _ = r := ih
    simp -implicitDefEqProofs only [kh,jp,TT,Ic.t,Ic.ci,Nat.reduceEqDiff,reduceIte,Nat.reduceAdd,Nat.reduceLT,reduceCtorEq,Int.reduceToNat,hl,he,hr,c1,f3.1,f3.2.1,f3a,f3b,f5.1,f5.2.1,f5a,f5b,c6,CL,LTN]
    exact hQ1 false rfl  _ _  (by first | exact bp (Nat.le_refl _) | (simp -implicitDefEqProofs only [TT,Ic.t,Ic.ci,Nat.reduceEqDiff,reduceIte,Nat.reduceAdd,Nat.reduceLT,reduceCtorEq,Int.reduceToNat,hl,c1,f3.1,f3.2.1,f3a,f3b,f5.1,f5.2.1,f5a,f5b,c6,CL,LTN]))
  rw [if_neg c1] at h
  injection h with h; subst h
  obtain rfl : _ = r := ih
  simp -implicitDefEqProofs only [kh,jp,TT,Ic.t,Ic.ci,Nat.reduceEqDiff,reduceIte,Nat.reduceAdd,Nat.reduceLT,reduceCtorEq,Int.reduceToNat,hl,he,hr,c1,CL,LTN]
  exact hQ0 () rfl  _ _ _   (by first | rfl | (simp -implicitDefEqProofs only [TT,Ic.t,Ic.ci,Nat.reduceEqDiff,reduceIte,Nat.reduceAdd,Nat.reduceLT,reduceCtorEq,Int.reduceToNat,hl,c1,CL,LTN])) (by first | exact bp (Nat.le_refl _) | (simp -implicitDefEqProofs only [TT,Ic.t,Ic.ci,Nat.reduceEqDiff,reduceIte,Nat.reduceAdd,Nat.reduceLT,reduceCtorEq,Int.reduceToNat,hl,c1,CL,LTN]))
noncomputable def kl (p1 : (List Int)) (p2 : (List Int)) : Option Bool :=
 if ((p1.length : Nat) : Int) = ((p2.length : Nat) : Int) then
  du p1 p2 (0 : Int) >>= fun y2 =>
  match y2 with
  | .ex w3 =>
   some true
  | .rt w5 =>
   some w5
 else
 some false
theorem zab2 (p1 : (List Int)) (p2 : (List Int)) (r : Bool) (h : kl p1 p2 = some r) (τ : TH) (hl : τ.lock ≤ τ.next) : Ru G kn [.sl (List.map (TV.int .i64) p1),.sl (List.map (TV.int .i64) p2)] τ (.bool r) τ := by
  refine jk fun K hK => ?_
  rw [b7 zasa (Nat.le_of_ble_eq_true rfl)]
  unfold kl at h
  by_cases c1 : ((p1.length : Nat) : Int) = ((p2.length : Nat) : Int)
  · rw [if_pos c1] at h
    obtain ⟨y2,hy2,h⟩ := ob h
    simp -implicitDefEqProofs only [jp,TT,Ic.t,Ic.ci,Nat.reduceEqDiff,reduceIte,Nat.reduceAdd,Nat.reduceLT,reduceCtorEq,Int.reduceToNat,hl,eq_true c1,CL,LTN]
    have Sy2 := zah6 p1 p2 (0 : Int) y2 hy2
    unfold kd at Sy2
    refine Sy2 _ (by first | assumption | omega | (simp only [ag,aj,ah,av]; omega)) _ ?_ ?_
    · intro w3 e frq4 tkq4 τq4 htq4 hcq4
      subst e
      simp only at h
      have hcq4 := bq (n := τ.next) hcq4 (by first | omega | (simp only [ag,aj]; omega))
      try simp only [List.take_succ_cons,List.take_zero,List.take_nil,CL] at htq4
      try simp -implicitDefEqProofs only [TT,Ic.t,Ic.ci,Nat.reduceEqDiff,reduceIte,Nat.reduceAdd,Nat.reduceLT,reduceCtorEq,Int.reduceToNat,hl,eq_true c1,CL,LTN] at hcq4
      injection h with h; subst h
      simp -implicitDefEqProofs only [jp,TT,Ic.t,Ic.ci,Nat.reduceEqDiff,reduceIte,Nat.reduceAdd,Nat.reduceLT,reduceCtorEq,Int.reduceToNat,hl,eq_true c1,htq4,hcq4,CL,LTN]
      exact hK
    intro w5 e tkq6 τq6 hcq6
    subst e
    simp only at h
    have hcq6 := bq (n := τ.next) hcq6 (by first | omega | (simp only [ag,aj]; omega))
    try simp -implicitDefEqProofs only [TT,Ic.t,Ic.ci,Nat.reduceEqDiff,reduceIte,Nat.reduceAdd,Nat.reduceLT,reduceCtorEq,Int.reduceToNat,hl,eq_true c1,CL,LTN] at hcq6
    injection h with h; subst h
    simp -implicitDefEqProofs only [jp,TT,Ic.t,Ic.ci,Nat.reduceEqDiff,reduceIte,Nat.reduceAdd,Nat.reduceLT,reduceCtorEq,Int.reduceToNat,hl,eq_true c1,hcq6,CL,LTN]
    exact hK
  rw [if_neg c1] at h
  injection h with h; subst h
  simp -implicitDefEqProofs only [jp,TT,Ic.t,Ic.ci,Nat.reduceEqDiff,reduceIte,Nat.reduceAdd,Nat.reduceLT,reduceCtorEq,Int.reduceToNat,hl,c1,CL,LTN]
  exact hK
theorem zaoj (p1 : (List Int)) (p2 : (List Int)) (r : Bool) (h : kl p1 p2 = some r) (lk : Bool) (d : Option Nat) (K : au) (fr : TF) (tk : TK) (τ : TH) (hl : τ.lock ≤ τ.next) : fv G lk kn [.sl (List.map (TV.int .i64) p1),.sl (List.map (TV.int .i64) p2)] d K fr tk τ = K (fu fr d (.bool r)) tk τ :=
  aw (zab2 p1 p2 r h τ  hl) (zab2 p1 p2 r h (τ.locked τ.next)  (Nat.le_refl _) ) (by simp -implicitDefEqProofs only [TT,Ic.t,Ic.ci,Nat.reduceEqDiff,reduceIte,Nat.reduceAdd,Nat.reduceLT,reduceCtorEq,Int.reduceToNat,hl,CL,LTN])
end Go.Proofs.Ytdcfoaafkppojaa
