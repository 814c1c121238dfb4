import Derived.Test.YtdcfoaafkppojaaHReach
set_option linter.unusedVariables false
set_option linter.unusedSimpArgs false
set_option linter.unusedSectionVars false
open Nat (reduceEqDiff reduceAdd reduceMul reduceLT reduceLeDiff reduceSub)
open Int (reduceToNat reduceNe reduceEq reduceNeg reduceLE)
namespace Go.Proofs.Ytdcfoaafkppojaa
open Go Go.RowKit Sh Ic
noncomputable section
def qw (p1 : ac) (p2 : Int) (p3 : Bool) : Option (List Bool) := reF p1 p2 p3 fun v => oo v
theorem zcgu (p1 : ac) (p2 : Int) (p3 : Bool) (r : (List Bool)) (h : qw p1 p2 p3 = some r) (τ : TH) (hl : τ.lock ≤ τ.next) : Ru G il [.agg [.str p1.ID,.sl (List.map af.tv p1.Parties),.sl (List.map aa.tv p1.Arcs),.sl (List.map (TV.int .i64) p1.Leaders),.sl (List.map TV.str p1.Locks),.int .i64 p1.Start,.int .i64 p1.Delta],.int .i64 p2,.bool p3,.func g9 [] []] τ (.sl (List.map TV.bool r)) τ :=
 zcll τ hl p1 p2 p3 g9 [] _ ⟨fun n hn => ⟨by first | rfl | (simp [ft,TV.under]; omega),by first | rfl | (simp [ltL,TV.lt]; omega)⟩,fun v r hv lk d K fr tk τ2 h1 h2 h3 => zcs0 v  r hv lk d K fr tk τ2  (by rw [h1]; exact Nat.le_trans hl h2) ⟩ r h
theorem zcgt (p1 : ac) (p2 : Int) (p3 : Bool) (r : (List Bool)) (h : qw p1 p2 p3 = some r) (lk : Bool) (d : Option Nat) (K : ap) (fr : TF) (tk : TK) (τ : TH) (hl : τ.lock ≤ τ.next) : fj G lk il [.agg [.str p1.ID,.sl (List.map af.tv p1.Parties),.sl (List.map aa.tv p1.Arcs),.sl (List.map (TV.int .i64) p1.Leaders),.sl (List.map TV.str p1.Locks),.int .i64 p1.Start,.int .i64 p1.Delta],.int .i64 p2,.bool p3,.func g9 [] []] d K fr tk τ = K (eo fr d (.sl (List.map TV.bool r))) tk τ :=
 av (zcgu p1 p2 p3 r h τ  hl) (zcgu p1 p2 p3 r h (τ.locked τ.next)  (Nat.le_refl _) ) (by simp only [TT,Ic.t,ci,reduceEqDiff,reduceIte,reduceAdd,reduceLT,reduceCtorEq,reduceToNat,hl,CL,LTN])
def a9 (v0 : (List Bool)) (v1 : Bool) (v2 : Int) (v3 : Int) : Option (LS (Int) (LX (Unit) (Int))) :=
 if v3 < v2 then
  ixL v0 v3 >>= fun y2 =>
  if (v1 == y2) = true then
   some (.dn (.rt v3))
  else
  some (.nx (IntKind.i64.wrap (v3 + (1 : Int))))
 else
 some (.dn (.ex ()))
def di (v0 : (List Bool)) (v1 : Bool) (v2 : Int) (v3 : Int) : Option (LX (Unit) (Int)) := qc (fun st => a9 v0 v1 v2 st) v3
theorem nm (v0 : (List Bool)) (v1 : Bool) (v2 : Int) (v3 : Int) : di v0 v1 v2 v3 = a9 v0 v1 v2 v3 >>= LS.go (fun st => di v0 v1 v2 st) := ij (fun st => a9 v0 v1 v2 st) v3
def gh (v0 : (List Bool)) (v1 : Bool) (v2 : Int) (v3 : Int) (r : LX (Unit) (Int)) : Prop := ∀ (τ : TH) (hl : τ.lock ≤ τ.next) (Q : TEx → ap) (hQ0 : ∀ v : Unit,r = (.ex v) → ∀ (fr : TF) (tk2 : TK) (τ2 : TH),tk2.take 0 = [] → τ2.cut τ.next = τ → Q (.exit 0) fr tk2 τ2) (hQ1 : ∀ v : Int,r = (.rt v) → ∀ (tk2 : TK) (τ2 : TH),τ2.cut τ.next = τ → Q .ret [(4,.int .i64 v)] tk2 τ2) ,tW G (.loop [0,1,7,8] fh) Q [(0,.sl (List.map TV.bool v0)),(1,.bool v1),(7,.int .i64 v2),(8,.int .i64 v3)] [] τ
theorem yf (v0 : (List Bool)) (v1 : Bool) (v2 : Int) (v3 : Int) (r : LX (Unit) (Int)) (h : di v0 v1 v2 v3 = some r) : gh v0 v1 v2 v3 r := by
 refine fi (f := fun st => a9 v0 v1 v2 st) (P := fun st r => ∀ (v3 : Int),v3 = st → gh v0 v1 v2 v3 r) ?_ h v3 rfl
 clear h r v3
 intro st o h r ih v3 hst τ  hl Q hQ0 hQ1
 subst hst
 have h : a9 v0 v1 v2 v3 = some o := h
 unfold a9 at h
 refine nk fun LQ hn hr he => ?_
 by_cases c1 : v3 < v2
 · rw [if_pos c1] at h
   obtain ⟨y2,hy2,h⟩ := ob h
   have f3 := bv hy2
   have f3a := (f3.2.2 TV.bool).1
   have f3b := (f3.2.2 TV.bool).2
   try simp only [CL,MC,reduceToNat] at f3 f3a f3b
   by_cases c4 : (v1 == y2) = true
   · rw [if_pos c4] at h
     injection h with h; subst h
     obtain rfl : _ = r := ih
     simp only [fh,eh,TT,Ic.t,ci,reduceEqDiff,reduceIte,reduceAdd,reduceLT,reduceCtorEq,reduceToNat,hl,he,hr,c1,f3.1,f3.2.1,f3a,f3b,c4,CL,LTN]
     exact hQ1 v3 rfl  _ _  (by first | exact jd (Nat.le_refl _) | (simp only [TT,Ic.t,ci,reduceEqDiff,reduceIte,reduceAdd,reduceLT,reduceCtorEq,reduceToNat,hl,c1,f3.1,f3.2.1,f3a,f3b,c4,CL,LTN]))
   rw [if_neg c4] at h
   have c4 := Bool.eq_false_iff.2 c4
   injection h with h; subst h
   have ih := ih (IntKind.i64.wrap (v3 + (1 : Int))) rfl
   unfold gh at ih
   simp only [fh,eh,TT,Ic.t,ci,reduceEqDiff,reduceIte,reduceAdd,reduceLT,reduceCtorEq,reduceToNat,hl,c1,f3.1,f3.2.1,f3a,f3b,c4,CL,LTN]
   rw [hn]
   simp only [TT,Ic.t,ci,reduceEqDiff,reduceIte,reduceAdd,reduceLT,reduceCtorEq,reduceToNat,hl,c1,f3.1,f3.2.1,f3a,f3b,c4,CL,LTN]
   exact ih  τ    (by first | assumption | (simp only [ag,ah]; assumption)) Q hQ0 hQ1
 rw [if_neg c1] at h
 injection h with h; subst h
 obtain rfl : _ = r := ih
 simp only [fh,eh,TT,Ic.t,ci,reduceEqDiff,reduceIte,reduceAdd,reduceLT,reduceCtorEq,reduceToNat,hl,he,hr,c1,CL,LTN]
 exact hQ0 () rfl  _ _ _   (by first | rfl | (simp only [TT,Ic.t,ci,reduceEqDiff,reduceIte,reduceAdd,reduceLT,reduceCtorEq,reduceToNat,hl,c1,CL,LTN])) (by first | exact jd (Nat.le_refl _) | (simp only [TT,Ic.t,ci,reduceEqDiff,reduceIte,reduceAdd,reduceLT,reduceCtorEq,reduceToNat,hl,c1,CL,LTN]))
def gt (p1 : (List Bool)) (p2 : Bool) : Option Int :=
 di p1 p2 ((p1.length : Nat) : Int) (0 : Int) >>= fun y1 =>
 match y1 with
 | .ex w2 =>
  some (-1 : Int)
 | .rt w4 =>
  some w4
theorem rf (p1 : (List Bool)) (p2 : Bool) (r : Int) (h : gt p1 p2 = some r) (τ : TH) (hl : τ.lock ≤ τ.next) : Ru G ei [.sl (List.map TV.bool p1),.bool p2] τ (.int .i64 r) τ := by
 refine kb fun K hK => ?_
 rw [cb zcuh (Nat.le_of_ble_eq_true rfl)]
 unfold gt at h
 obtain ⟨y1,hy1,h⟩ := ob h
 simp only [eh,TT,Ic.t,ci,reduceEqDiff,reduceIte,reduceAdd,reduceLT,reduceCtorEq,reduceToNat,hl,CL,LTN]
 have Sy1 := yf p1 p2 ((p1.length : Nat) : Int) (0 : Int) y1 hy1
 unfold gh at Sy1
 refine Sy1 _ (by first | assumption | omega | (simp only [ag,ak,ah,ay]; omega)) _ ?_ ?_
 · intro w2 e frq3 tkq3 τq3 htq3 hcq3
   subst e
   simp only at h
   have hcq3 := eu (n := τ.next) hcq3 (by first | omega | (simp only [ag,ak]; omega))
   try simp only [List.take_succ_cons,List.take_zero,List.take_nil,CL] at htq3
   try simp only [TT,Ic.t,ci,reduceEqDiff,reduceIte,reduceAdd,reduceLT,reduceCtorEq,reduceToNat,hl,CL,LTN] at hcq3
   injection h with h; subst h
   simp only [eh,TT,Ic.t,ci,reduceEqDiff,reduceIte,reduceAdd,reduceLT,reduceCtorEq,reduceToNat,hl,htq3,hcq3,CL,LTN]
   exact hK
 intro w4 e tkq5 τq5 hcq5
 subst e
 simp only at h
 have hcq5 := eu (n := τ.next) hcq5 (by first | omega | (simp only [ag,ak]; omega))
 try simp only [TT,Ic.t,ci,reduceEqDiff,reduceIte,reduceAdd,reduceLT,reduceCtorEq,reduceToNat,hl,CL,LTN] at hcq5
 injection h with h; subst h
 simp only [eh,TT,Ic.t,ci,reduceEqDiff,reduceIte,reduceAdd,reduceLT,reduceCtorEq,reduceToNat,hl,hcq5,CL,LTN]
 exact hK
theorem zcuk (p1 : (List Bool)) (p2 : Bool) (r : Int) (h : gt p1 p2 = some r) (lk : Bool) (d : Option Nat) (K : ap) (fr : TF) (tk : TK) (τ : TH) (hl : τ.lock ≤ τ.next) : fj G lk ei [.sl (List.map TV.bool p1),.bool p2] d K fr tk τ = K (eo fr d (.int .i64 r)) tk τ :=
 av (rf p1 p2 r h τ  hl) (rf p1 p2 r h (τ.locked τ.next)  (Nat.le_refl _) ) (by simp only [TT,Ic.t,ci,reduceEqDiff,reduceIte,reduceAdd,reduceLT,reduceCtorEq,reduceToNat,hl,CL,LTN])
def cj (p1 : (List Bool)) (p2 : Bool) : Option Bool :=
 gt p1 p2 >>= fun y1 =>
 some (decide ((0 : Int) ≤ y1))
theorem n7 (p1 : (List Bool)) (p2 : Bool) (r : Bool) (h : cj p1 p2 = some r) (τ : TH) (hl : τ.lock ≤ τ.next) : Ru G cp [.sl (List.map TV.bool p1),.bool p2] τ (.bool r) τ := by
 refine kb fun K hK => ?_
 rw [cb zcun (Nat.le_of_ble_eq_true rfl)]
 unfold cj at h
 obtain ⟨y1,hy1,h⟩ := ob h
 have k2 := zcuk p1 p2 _ hy1
 try simp only [CL,MC,reduceToNat] at k2
 injection h with h; subst h
 simp only [zcul,TT,Ic.t,ci,reduceEqDiff,reduceIte,reduceAdd,reduceLT,reduceCtorEq,reduceToNat,hl,k2,CL,LTN]
 exact hK
theorem n8 (p1 : (List Bool)) (p2 : Bool) (r : Bool) (h : cj p1 p2 = some r) (lk : Bool) (d : Option Nat) (K : ap) (fr : TF) (tk : TK) (τ : TH) (hl : τ.lock ≤ τ.next) : fj G lk cp [.sl (List.map TV.bool p1),.bool p2] d K fr tk τ = K (eo fr d (.bool r)) tk τ :=
 av (n7 p1 p2 r h τ  hl) (n7 p1 p2 r h (τ.locked τ.next)  (Nat.le_refl _) ) (by simp only [TT,Ic.t,ci,reduceEqDiff,reduceIte,reduceAdd,reduceLT,reduceCtorEq,reduceToNat,hl,CL,LTN])
def dl (p1 : ac) : Option Bool :=
 ke p1 >>= fun y1 =>
 if y1 = true then
  qw p1 (0 : Int) false >>= fun y4 =>
  cj y4 false >>= fun y6 =>
  if y6 = true then
   some false
  else
  qw p1 (0 : Int) true >>= fun y9 =>
  cj y9 false >>= fun y11 =>
  some (!y11)
 else
 some false
theorem zchy (p1 : ac) (r : Bool) (h : dl p1 = some r) (τ : TH) (hl : τ.lock ≤ τ.next) : Ru G mv [.agg [.str p1.ID,.sl (List.map af.tv p1.Parties),.sl (List.map aa.tv p1.Arcs),.sl (List.map (TV.int .i64) p1.Leaders),.sl (List.map TV.str p1.Locks),.int .i64 p1.Start,.int .i64 p1.Delta]] τ (.bool r) τ := by
 refine kb fun K hK => ?_
 rw [cb zcr3 (Nat.le_of_ble_eq_true rfl)]
 unfold dl at h
 obtain ⟨y1,hy1,h⟩ := ob h
 have k2 := sf p1 _ hy1
 try simp only [CL,MC,reduceToNat] at k2
 by_cases c3 : y1 = true
 · rw [if_pos c3] at h
   obtain ⟨y4,hy4,h⟩ := ob h
   have k5 := zcgt p1 (0 : Int) false _ hy4
   try simp only [CL,MC,reduceToNat] at k5
   obtain ⟨y6,hy6,h⟩ := ob h
   have k7 := n8 y4 false _ hy6
   try simp only [CL,MC,reduceToNat] at k7
   by_cases c8 : y6 = true
   · rw [if_pos c8] at h
     injection h with h; subst h
     simp only [zb2t,TT,Ic.t,ci,reduceEqDiff,reduceIte,reduceAdd,reduceLT,reduceCtorEq,reduceToNat,hl,k2,c3,k5,k7,c8,CL,LTN]
     first | exact hK | (simp only [hl,k2,c3,k5,k7,c8,CL] at hK; exact hK)
   rw [if_neg c8] at h
   have c8 := Bool.eq_false_iff.2 c8
   obtain ⟨y9,hy9,h⟩ := ob h
   have k10 := zcgt p1 (0 : Int) true _ hy9
   try simp only [CL,MC,reduceToNat] at k10
   obtain ⟨y11,hy11,h⟩ := ob h
   have k12 := n8 y9 false _ hy11
   try simp only [CL,MC,reduceToNat] at k12
   injection h with h; subst h
   simp only [zb2t,TT,Ic.t,ci,reduceEqDiff,reduceIte,reduceAdd,reduceLT,reduceCtorEq,reduceToNat,hl,k2,c3,k5,k7,c8,k10,k12,CL,LTN]
   first | exact hK | (simp only [hl,k2,c3,k5,k7,c8,k10,k12,CL] at hK; exact hK)
 rw [if_neg c3] at h
 have c3 := Bool.eq_false_iff.2 c3
 injection h with h; subst h
 simp only [zb2t,TT,Ic.t,ci,reduceEqDiff,reduceIte,reduceAdd,reduceLT,reduceCtorEq,reduceToNat,hl,k2,c3,CL,LTN]
 first | exact hK | (simp only [hl,k2,c3,CL] at hK; exact hK)
theorem oh (p1 : ac) (r : Bool) (h : dl p1 = some r) (lk : Bool) (d : Option Nat) (K : ap) (fr : TF) (tk : TK) (τ : TH) (hl : τ.lock ≤ τ.next) : fj G lk mv [.agg [.str p1.ID,.sl (List.map af.tv p1.Parties),.sl (List.map aa.tv p1.Arcs),.sl (List.map (TV.int .i64) p1.Leaders),.sl (List.map TV.str p1.Locks),.int .i64 p1.Start,.int .i64 p1.Delta]] d K fr tk τ = K (eo fr d (.bool r)) tk τ :=
 av (zchy p1 r h τ  hl) (zchy p1 r h (τ.locked τ.next)  (Nat.le_refl _) ) (by simp only [TT,Ic.t,ci,reduceEqDiff,reduceIte,reduceAdd,reduceLT,reduceCtorEq,reduceToNat,hl,CL,LTN])
def bc (v0 : (List Int)) (v1 : Int) (v2 : Int) (v3 : Int) : Option (LS (Int) (LX (Unit) (Int))) :=
 if v3 < v2 then
  ixL v0 v3 >>= fun y2 =>
  if v1 = y2 then
   some (.dn (.rt v3))
  else
  some (.nx (IntKind.i64.wrap (v3 + (1 : Int))))
 else
 some (.dn (.ex ()))
def dz (v0 : (List Int)) (v1 : Int) (v2 : Int) (v3 : Int) : Option (LX (Unit) (Int)) := qc (fun st => bc v0 v1 v2 st) v3
theorem pb (v0 : (List Int)) (v1 : Int) (v2 : Int) (v3 : Int) : dz v0 v1 v2 v3 = bc v0 v1 v2 v3 >>= LS.go (fun st => dz v0 v1 v2 st) := ij (fun st => bc v0 v1 v2 st) v3
def ib (v0 : (List Int)) (v1 : Int) (v2 : Int) (v3 : Int) (r : LX (Unit) (Int)) : Prop := ∀ (τ : TH) (hl : τ.lock ≤ τ.next) (Q : TEx → ap) (hQ0 : ∀ v : Unit,r = (.ex v) → ∀ (fr : TF) (tk2 : TK) (τ2 : TH),tk2.take 0 = [] → τ2.cut τ.next = τ → Q (.exit 0) fr tk2 τ2) (hQ1 : ∀ v : Int,r = (.rt v) → ∀ (tk2 : TK) (τ2 : TH),τ2.cut τ.next = τ → Q .ret [(4,.int .i64 v)] tk2 τ2) ,tW G (.loop [0,1,7,8] gu) Q [(0,.sl (List.map (TV.int .i64) v0)),(1,.int .i64 v1),(7,.int .i64 v2),(8,.int .i64 v3)] [] τ
theorem z9 (v0 : (List Int)) (v1 : Int) (v2 : Int) (v3 : Int) (r : LX (Unit) (Int)) (h : dz v0 v1 v2 v3 = some r) : ib v0 v1 v2 v3 r := by
 refine fi (f := fun st => bc v0 v1 v2 st) (P := fun st r => ∀ (v3 : Int),v3 = st → ib v0 v1 v2 v3 r) ?_ h v3 rfl
 clear h r v3
 intro st o h r ih v3 hst τ  hl Q hQ0 hQ1
 subst hst
 have h : bc v0 v1 v2 v3 = some o := h
 unfold bc at h
 refine nk fun LQ hn hr he => ?_
 by_cases c1 : v3 < v2
 · rw [if_pos c1] at h
   obtain ⟨y2,hy2,h⟩ := ob h
   have f3 := bv hy2
   have f3a := (f3.2.2 (TV.int .i64)).1
   have f3b := (f3.2.2 (TV.int .i64)).2
   try simp only [CL,MC,reduceToNat] at f3 f3a f3b
   by_cases c4 : v1 = y2
   · rw [if_pos c4] at h
     injection h with h; subst h
     obtain rfl : _ = r := ih
     simp only [gu,fp,TT,Ic.t,ci,reduceEqDiff,reduceIte,reduceAdd,reduceLT,reduceCtorEq,reduceToNat,hl,he,hr,c1,f3.1,f3.2.1,f3a,f3b,eq_true c4,CL,LTN]
     exact hQ1 v3 rfl  _ _  (by first | exact jd (Nat.le_refl _) | (simp only [TT,Ic.t,ci,reduceEqDiff,reduceIte,reduceAdd,reduceLT,reduceCtorEq,reduceToNat,hl,c1,f3.1,f3.2.1,f3a,f3b,eq_true c4,CL,LTN]))
   rw [if_neg c4] at h
   injection h with h; subst h
   have ih := ih (IntKind.i64.wrap (v3 + (1 : Int))) rfl
   unfold ib at ih
   simp only [gu,fp,TT,Ic.t,ci,reduceEqDiff,reduceIte,reduceAdd,reduceLT,reduceCtorEq,reduceToNat,hl,c1,f3.1,f3.2.1,f3a,f3b,c4,CL,LTN]
   rw [hn]
   simp only [TT,Ic.t,ci,reduceEqDiff,reduceIte,reduceAdd,reduceLT,reduceCtorEq,reduceToNat,hl,c1,f3.1,f3.2.1,f3a,f3b,c4,CL,LTN]
   exact ih  τ    (by first | assumption | (simp only [ag,ah]; assumption)) Q hQ0 hQ1
 rw [if_neg c1] at h
 injection h with h; subst h
 obtain rfl : _ = r := ih
 simp only [gu,fp,TT,Ic.t,ci,reduceEqDiff,reduceIte,reduceAdd,reduceLT,reduceCtorEq,reduceToNat,hl,he,hr,c1,CL,LTN]
 exact hQ0 () rfl  _ _ _   (by first | rfl | (simp only [TT,Ic.t,ci,reduceEqDiff,reduceIte,reduceAdd,reduceLT,reduceCtorEq,reduceToNat,hl,c1,CL,LTN])) (by first | exact jd (Nat.le_refl _) | (simp only [TT,Ic.t,ci,reduceEqDiff,reduceIte,reduceAdd,reduceLT,reduceCtorEq,reduceToNat,hl,c1,CL,LTN]))
def iv (p1 : (List Int)) (p2 : Int) : Option Int :=
 dz p1 p2 ((p1.length : Nat) : Int) (0 : Int) >>= fun y1 =>
 match y1 with
 | .ex w2 =>
  some (-1 : Int)
 | .rt w4 =>
  some w4
theorem up (p1 : (List Int)) (p2 : Int) (r : Int) (h : iv p1 p2 = some r) (τ : TH) (hl : τ.lock ≤ τ.next) : Ru G fq [.sl (List.map (TV.int .i64) p1),.int .i64 p2] τ (.int .i64 r) τ := by
 refine kb fun K hK => ?_
 rw [cb zct7 (Nat.le_of_ble_eq_true rfl)]
 unfold iv at h
 obtain ⟨y1,hy1,h⟩ := ob h
 simp only [fp,TT,Ic.t,ci,reduceEqDiff,reduceIte,reduceAdd,reduceLT,reduceCtorEq,reduceToNat,hl,CL,LTN]
 have Sy1 := z9 p1 p2 ((p1.length : Nat) : Int) (0 : Int) y1 hy1
 unfold ib at Sy1
 refine Sy1 _ (by first | assumption | omega | (simp only [ag,ak,ah,ay]; omega)) _ ?_ ?_
 · intro w2 e frq3 tkq3 τq3 htq3 hcq3
   subst e
   simp only at h
   have hcq3 := eu (n := τ.next) hcq3 (by first | omega | (simp only [ag,ak]; omega))
   try simp only [List.take_succ_cons,List.take_zero,List.take_nil,CL] at htq3
   try simp only [TT,Ic.t,ci,reduceEqDiff,reduceIte,reduceAdd,reduceLT,reduceCtorEq,reduceToNat,hl,CL,LTN] at hcq3
   injection h with h; subst h
   simp only [fp,TT,Ic.t,ci,reduceEqDiff,reduceIte,reduceAdd,reduceLT,reduceCtorEq,reduceToNat,hl,htq3,hcq3,CL,LTN]
   exact hK
 intro w4 e tkq5 τq5 hcq5
 subst e
 simp only at h
 have hcq5 := eu (n := τ.next) hcq5 (by first | omega | (simp only [ag,ak]; omega))
 try simp only [TT,Ic.t,ci,reduceEqDiff,reduceIte,reduceAdd,reduceLT,reduceCtorEq,reduceToNat,hl,CL,LTN] at hcq5
 injection h with h; subst h
 simp only [fp,TT,Ic.t,ci,reduceEqDiff,reduceIte,reduceAdd,reduceLT,reduceCtorEq,reduceToNat,hl,hcq5,CL,LTN]
 exact hK
theorem zcud (p1 : (List Int)) (p2 : Int) (r : Int) (h : iv p1 p2 = some r) (lk : Bool) (d : Option Nat) (K : ap) (fr : TF) (tk : TK) (τ : TH) (hl : τ.lock ≤ τ.next) : fj G lk fq [.sl (List.map (TV.int .i64) p1),.int .i64 p2] d K fr tk τ = K (eo fr d (.int .i64 r)) tk τ :=
 av (up p1 p2 r h τ  hl) (up p1 p2 r h (τ.locked τ.next)  (Nat.le_refl _) ) (by simp only [TT,Ic.t,ci,reduceEqDiff,reduceIte,reduceAdd,reduceLT,reduceCtorEq,reduceToNat,hl,CL,LTN])
def dc (p1 : (List Int)) (p2 : Int) : Option Bool :=
 iv p1 p2 >>= fun y1 =>
 some (decide ((0 : Int) ≤ y1))
theorem py (p1 : (List Int)) (p2 : Int) (r : Bool) (h : dc p1 p2 = some r) (τ : TH) (hl : τ.lock ≤ τ.next) : Ru G dd [.sl (List.map (TV.int .i64) p1),.int .i64 p2] τ (.bool r) τ := by
 refine kb fun K hK => ?_
 rw [cb zcui (Nat.le_of_ble_eq_true rfl)]
 unfold dc at h
 obtain ⟨y1,hy1,h⟩ := ob h
 have k2 := zcud p1 p2 _ hy1
 try simp only [CL,MC,reduceToNat] at k2
 injection h with h; subst h
 simp only [zcue,TT,Ic.t,ci,reduceEqDiff,reduceIte,reduceAdd,reduceLT,reduceCtorEq,reduceToNat,hl,k2,CL,LTN]
 exact hK
theorem pz (p1 : (List Int)) (p2 : Int) (r : Bool) (h : dc p1 p2 = some r) (lk : Bool) (d : Option Nat) (K : ap) (fr : TF) (tk : TK) (τ : TH) (hl : τ.lock ≤ τ.next) : fj G lk dd [.sl (List.map (TV.int .i64) p1),.int .i64 p2] d K fr tk τ = K (eo fr d (.bool r)) tk τ :=
 av (py p1 p2 r h τ  hl) (py p1 p2 r h (τ.locked τ.next)  (Nat.le_refl _) ) (by simp only [TT,Ic.t,ci,reduceEqDiff,reduceIte,reduceAdd,reduceLT,reduceCtorEq,reduceToNat,hl,CL,LTN])
def d8 (p1 : Int) (p2 : ac) : Option Bool :=
 dc p2.Leaders p1 >>= fun y1 =>
 some (!y1)
theorem y0 (p1 : Int) (p2 : ac) (r : Bool) (h : d8 p1 p2 = some r) (τ : TH) (o0 : Nat) (hl : τ.lock ≤ τ.next) (ha0 : τ.at o0 = some ⟨aw,[.str p2.ID,.sl (List.map af.tv p2.Parties),.sl (List.map aa.tv p2.Arcs),.sl (List.map (TV.int .i64) p2.Leaders),.sl (List.map TV.str p2.Locks),.int .i64 p2.Start,.int .i64 p2.Delta]⟩) (hi0 : o0 < τ.next) : Ru G dp [.int .i64 p1,.ptr o0 0] τ (.bool r) τ := by
 refine kb fun K hK => ?_
 rw [cb zctx (Nat.le_of_ble_eq_true rfl)]
 unfold d8 at h
 obtain ⟨y1,hy1,h⟩ := ob h
 have k2 := pz p2.Leaders p1 _ hy1
 try simp only [CL,MC,reduceToNat] at k2
 injection h with h; subst h
 simp only [zcts,TT,Ic.t,ci,reduceEqDiff,reduceIte,reduceAdd,reduceLT,reduceCtorEq,reduceToNat,hl,ha0,hi0,k2,CL,LTN]
 exact hK
theorem za (p1 : Int) (p2 : ac) (r : Bool) (h : d8 p1 p2 = some r) (lk : Bool) (d : Option Nat) (K : ap) (fr : TF) (tk : TK) (τ : TH) (o0 : Nat) (hl : τ.lock ≤ τ.next) (ha0 : τ.at o0 = some ⟨aw,[.str p2.ID,.sl (List.map af.tv p2.Parties),.sl (List.map aa.tv p2.Arcs),.sl (List.map (TV.int .i64) p2.Leaders),.sl (List.map TV.str p2.Locks),.int .i64 p2.Start,.int .i64 p2.Delta]⟩) (hi0 : o0 < τ.next) : fj G lk dp [.int .i64 p1,.ptr o0 0] d K fr tk τ = K (eo fr d (.bool r)) tk τ :=
 av (y0 p1 p2 r h τ o0 hl ha0 hi0) (y0 p1 p2 r h (τ.locked τ.next) o0 (Nat.le_refl _) (by rw [za4o]; exact ha0) hi0) (by simp only [TT,Ic.t,ci,reduceEqDiff,reduceIte,reduceAdd,reduceLT,reduceCtorEq,reduceToNat,hl,ha0,hi0,CL,LTN])
def sn (p1 : ac) (p2 : Int) (p3 : Bool) (p4 : ac) : Option (List Bool) := reF p1 p2 p3 fun v => d8 v p4
theorem zch0 (p1 : ac) (p2 : Int) (p3 : Bool) (p4 : ac) (r : (List Bool)) (h : sn p1 p2 p3 p4 = some r) (τ : TH) (o0 : Nat) (hl : τ.lock ≤ τ.next) (ha0 : τ.at o0 = some ⟨aw,[.str p4.ID,.sl (List.map af.tv p4.Parties),.sl (List.map aa.tv p4.Arcs),.sl (List.map (TV.int .i64) p4.Leaders),.sl (List.map TV.str p4.Locks),.int .i64 p4.Start,.int .i64 p4.Delta]⟩) (hi0 : o0 < τ.next) : Ru G il [.agg [.str p1.ID,.sl (List.map af.tv p1.Parties),.sl (List.map aa.tv p1.Arcs),.sl (List.map (TV.int .i64) p1.Leaders),.sl (List.map TV.str p1.Locks),.int .i64 p1.Start,.int .i64 p1.Delta],.int .i64 p2,.bool p3,.func dp [] [.ptr o0 0]] τ (.sl (List.map TV.bool r)) τ :=
 zcll τ hl p1 p2 p3 dp [.ptr o0 0] _ ⟨fun n hn => ⟨by first | rfl | (simp [ft,TV.under]; omega),by first | rfl | (simp [ltL,TV.lt]; omega)⟩,fun v r hv lk d K fr tk τ2 h1 h2 h3 => za v p4 r hv lk d K fr tk τ2 o0 (by rw [h1]; exact Nat.le_trans hl h2) (by rw [← zbu4 hi0,h3]; exact ha0) (Nat.lt_of_lt_of_le hi0 h2)⟩ r h
theorem zcs1 (p1 : ac) (p2 : Int) (p3 : Bool) (p4 : ac) (r : (List Bool)) (h : sn p1 p2 p3 p4 = some r) (lk : Bool) (d : Option Nat) (K : ap) (fr : TF) (tk : TK) (τ : TH) (o0 : Nat) (hl : τ.lock ≤ τ.next) (ha0 : τ.at o0 = some ⟨aw,[.str p4.ID,.sl (List.map af.tv p4.Parties),.sl (List.map aa.tv p4.Arcs),.sl (List.map (TV.int .i64) p4.Leaders),.sl (List.map TV.str p4.Locks),.int .i64 p4.Start,.int .i64 p4.Delta]⟩) (hi0 : o0 < τ.next) : fj G lk il [.agg [.str p1.ID,.sl (List.map af.tv p1.Parties),.sl (List.map aa.tv p1.Arcs),.sl (List.map (TV.int .i64) p1.Leaders),.sl (List.map TV.str p1.Locks),.int .i64 p1.Start,.int .i64 p1.Delta],.int .i64 p2,.bool p3,.func dp [] [.ptr o0 0]] d K fr tk τ = K (eo fr d (.sl (List.map TV.bool r))) tk τ :=
 av (zch0 p1 p2 p3 p4 r h τ o0 hl ha0 hi0) (zch0 p1 p2 p3 p4 r h (τ.locked τ.next) o0 (Nat.le_refl _) (by rw [za4o]; exact ha0) hi0) (by simp only [TT,Ic.t,ci,reduceEqDiff,reduceIte,reduceAdd,reduceLT,reduceCtorEq,reduceToNat,hl,ha0,hi0,CL,LTN])
def bx (v0 : ac) (v1 : Int) (v2 : Int) : Option (LS (Int) (LX (Unit) (Bool))) :=
 if v2 < v1 then
  d8 v2 v0 >>= fun y2 =>
  if y2 = true then
   sn v0 v2 false v0 >>= fun y5 =>
   ixL y5 v2 >>= fun y7 =>
   if y7 = true then
    some (.dn (.rt false))
   else
   some (.nx (IntKind.i64.wrap (v2 + (1 : Int))))
  else
  some (.nx (IntKind.i64.wrap (v2 + (1 : Int))))
 else
 some (.dn (.ex ()))
def cn (v0 : ac) (v1 : Int) (v2 : Int) : Option (LX (Unit) (Bool)) := qc (fun st => bx v0 v1 st) v2
theorem ou (v0 : ac) (v1 : Int) (v2 : Int) : cn v0 v1 v2 = bx v0 v1 v2 >>= LS.go (fun st => cn v0 v1 st) := ij (fun st => bx v0 v1 st) v2
def jl (v0 : ac) (v1 : Int) (v2 : Int) (r : LX (Unit) (Bool)) : Prop := ∀ (τ : TH) (o0 : Nat) (hl : τ.lock ≤ τ.next) (ha0 : τ.at o0 = some ⟨aw,[.str v0.ID,.sl (List.map af.tv v0.Parties),.sl (List.map aa.tv v0.Arcs),.sl (List.map (TV.int .i64) v0.Leaders),.sl (List.map TV.str v0.Locks),.int .i64 v0.Start,.int .i64 v0.Delta]⟩) (hi0 : o0 < τ.next) (Q : TEx → ap) (hQ0 : ∀ v : Unit,r = (.ex v) → ∀ (fr : TF) (tk2 : TK) (τ2 : TH),tk2.take 0 = [] → τ2.cut τ.next = τ → Q (.exit 0) fr tk2 τ2) (hQ1 : ∀ v : Bool,r = (.rt v) → ∀ (tk2 : TK) (τ2 : TH),τ2.cut τ.next = τ → Q .ret [(2,.bool v)] tk2 τ2) ,tW G (.loop [1,3,11,12] jp) Q [(1,.ptr o0 0),(3,.func dp [] [.ptr o0 0]),(11,.int .i64 v1),(12,.int .i64 v2)] [] τ
theorem zct3 (v0 : ac) (v1 : Int) (v2 : Int) (r : LX (Unit) (Bool)) (h : cn v0 v1 v2 = some r) : jl v0 v1 v2 r := by
 refine fi (f := fun st => bx v0 v1 st) (P := fun st r => ∀ (v2 : Int),v2 = st → jl v0 v1 v2 r) ?_ h v2 rfl
 clear h r v2
 intro st o h r ih v2 hst τ o0  hl ha0 hi0 Q hQ0 hQ1
 subst hst
 have h : bx v0 v1 v2 = some o := h
 unfold bx at h
 refine nk fun LQ hn hr he => ?_
 by_cases c1 : v2 < v1
 · rw [if_pos c1] at h
   obtain ⟨y2,hy2,h⟩ := ob h
   have k3 := za v2 v0 _ hy2
   try simp only [CL,MC,reduceToNat] at k3
   by_cases c4 : y2 = true
   · rw [if_pos c4] at h
     obtain ⟨y5,hy5,h⟩ := ob h
     have k6 := zcs1 v0 v2 false v0 _ hy5
     try simp only [CL,MC,reduceToNat] at k6
     obtain ⟨y7,hy7,h⟩ := ob h
     have f8 := bv hy7
     have f8a := (f8.2.2 TV.bool).1
     have f8b := (f8.2.2 TV.bool).2
     try simp only [CL,MC,reduceToNat] at f8 f8a f8b
     by_cases c9 : y7 = true
     · rw [if_pos c9] at h
       injection h with h; subst h
       obtain rfl : _ = r := ih
       simp only [jp,ir,TT,Ic.t,ci,reduceEqDiff,reduceIte,reduceAdd,reduceLT,reduceCtorEq,reduceToNat,hl,ha0,hi0,he,hr,c1,k3,c4,k6,f8.1,f8.2.1,f8a,f8b,c9,CL,LTN]
       exact hQ1 false rfl  _ _  (by first | exact jd (Nat.le_refl _) | (simp only [TT,Ic.t,ci,reduceEqDiff,reduceIte,reduceAdd,reduceLT,reduceCtorEq,reduceToNat,hl,ha0,hi0,c1,k3,c4,k6,f8.1,f8.2.1,f8a,f8b,c9,CL,LTN]))
     rw [if_neg c9] at h
     have c9 := Bool.eq_false_iff.2 c9
     injection h with h; subst h
     have ih := ih (IntKind.i64.wrap (v2 + (1 : Int))) rfl
     unfold jl at ih
     simp only [jp,ir,TT,Ic.t,ci,reduceEqDiff,reduceIte,reduceAdd,reduceLT,reduceCtorEq,reduceToNat,hl,ha0,hi0,c1,k3,c4,k6,f8.1,f8.2.1,f8a,f8b,c9,CL,LTN]
     rw [hn]
     simp only [TT,Ic.t,ci,reduceEqDiff,reduceIte,reduceAdd,reduceLT,reduceCtorEq,reduceToNat,hl,ha0,hi0,c1,k3,c4,k6,f8.1,f8.2.1,f8a,f8b,c9,CL,LTN]
     exact ih  τ o0   (by first | assumption | (simp only [ag,ah]; assumption)) (by simp only [TT,Ic.t,ci,reduceEqDiff,reduceIte,reduceAdd,reduceLT,reduceCtorEq,reduceToNat,hl,ha0,hi0,c1,k3,c4,k6,f8.1,f8.2.1,f8a,f8b,c9,CL,LTN]) (by first | assumption | (simp only [ag,ah]; assumption)) Q hQ0 hQ1
   rw [if_neg c4] at h
   have c4 := Bool.eq_false_iff.2 c4
   injection h with h; subst h
   have ih := ih (IntKind.i64.wrap (v2 + (1 : Int))) rfl
   unfold jl at ih
   simp only [jp,ir,TT,Ic.t,ci,reduceEqDiff,reduceIte,reduceAdd,reduceLT,reduceCtorEq,reduceToNat,hl,ha0,hi0,c1,k3,c4,CL,LTN]
   rw [hn]
   simp only [TT,Ic.t,ci,reduceEqDiff,reduceIte,reduceAdd,reduceLT,reduceCtorEq,reduceToNat,hl,ha0,hi0,c1,k3,c4,CL,LTN]
   exact ih  τ o0   (by first | assumption | (simp only [ag,ah]; assumption)) (by simp only [TT,Ic.t,ci,reduceEqDiff,reduceIte,reduceAdd,reduceLT,reduceCtorEq,reduceToNat,hl,ha0,hi0,c1,k3,c4,CL,LTN]) (by first | assumption | (simp only [ag,ah]; assumption)) Q hQ0 hQ1
 rw [if_neg c1] at h
 injection h with h; subst h
 obtain rfl : _ = r := ih
 simp only [jp,ir,TT,Ic.t,ci,reduceEqDiff,reduceIte,reduceAdd,reduceLT,reduceCtorEq,reduceToNat,hl,ha0,hi0,he,hr,c1,CL,LTN]
 exact hQ0 () rfl  _ _ _   (by first | rfl | (simp only [TT,Ic.t,ci,reduceEqDiff,reduceIte,reduceAdd,reduceLT,reduceCtorEq,reduceToNat,hl,ha0,hi0,c1,CL,LTN])) (by first | exact jd (Nat.le_refl _) | (simp only [TT,Ic.t,ci,reduceEqDiff,reduceIte,reduceAdd,reduceLT,reduceCtorEq,reduceToNat,hl,ha0,hi0,c1,CL,LTN]))
def cg (p1 : ac) : Option Bool :=
 ke p1 >>= fun y1 =>
 if y1 = true then
  cn p1 ((p1.Parties.length : Nat) : Int) (0 : Int) >>= fun y4 =>
  match y4 with
  | .ex w5 =>
   some true
  | .rt w7 =>
   some w7
 else
 some false
theorem zcih (p1 : ac) (r : Bool) (h : cg p1 = some r) (τ : TH) (hl : τ.lock ≤ τ.next) : Ru G jw [.agg [.str p1.ID,.sl (List.map af.tv p1.Parties),.sl (List.map aa.tv p1.Arcs),.sl (List.map (TV.int .i64) p1.Leaders),.sl (List.map TV.str p1.Locks),.int .i64 p1.Start,.int .i64 p1.Delta]] τ (.bool r) τ := by
 refine kb fun K hK => ?_
 rw [cb zcsw (Nat.le_of_ble_eq_true rfl)]
 unfold cg at h
 obtain ⟨y1,hy1,h⟩ := ob h
 have k2 := sf p1 _ hy1
 try simp only [CL,MC,reduceToNat] at k2
 by_cases c3 : y1 = true
 · rw [if_pos c3] at h
   obtain ⟨y4,hy4,h⟩ := ob h
   simp only [ir,TT,Ic.t,ci,reduceEqDiff,reduceIte,reduceAdd,reduceLT,reduceCtorEq,reduceToNat,hl,k2,c3,CL,LTN]
   have Sy4 := zct3 p1 ((p1.Parties.length : Nat) : Int) (0 : Int) y4 hy4
   unfold jl at Sy4
   refine Sy4 _ τ.next (by first | assumption | omega | (simp only [ag,ak,ah,ay]; omega)) (by simp only [TT,Ic.t,ci,reduceEqDiff,reduceIte,reduceAdd,reduceLT,reduceCtorEq,reduceToNat,hl,k2,c3,CL,LTN]) (by first | assumption | omega | (simp only [ag,ak,ah,ay]; omega)) _ ?_ ?_
   · intro w5 e frq6 tkq6 τq6 htq6 hcq6
     subst e
     simp only at h
     have hcq6 := eu (n := τ.next + 1) hcq6 (by first | omega | (simp only [ag,ak]; omega))
     try simp only [List.take_succ_cons,List.take_zero,List.take_nil,CL] at htq6
     try simp only [TT,Ic.t,ci,reduceEqDiff,reduceIte,reduceAdd,reduceLT,reduceCtorEq,reduceToNat,hl,k2,c3,CL,LTN] at hcq6
     injection h with h; subst h
     simp only [ir,TT,Ic.t,ci,reduceEqDiff,reduceIte,reduceAdd,reduceLT,reduceCtorEq,reduceToNat,hl,k2,c3,htq6,hcq6,CL,LTN]
     first | exact hK | (simp only [hl,k2,c3,htq6,hcq6,CL] at hK; exact hK)
   intro w7 e tkq8 τq8 hcq8
   subst e
   simp only at h
   have hcq8 := eu (n := τ.next) hcq8 (by first | omega | (simp only [ag,ak]; omega))
   try simp only [TT,Ic.t,ci,reduceEqDiff,reduceIte,reduceAdd,reduceLT,reduceCtorEq,reduceToNat,hl,k2,c3,CL,LTN] at hcq8
   injection h with h; subst h
   simp only [ir,TT,Ic.t,ci,reduceEqDiff,reduceIte,reduceAdd,reduceLT,reduceCtorEq,reduceToNat,hl,k2,c3,hcq8,CL,LTN]
   first | exact hK | (simp only [hl,k2,c3,hcq8,CL] at hK; exact hK)
 rw [if_neg c3] at h
 have c3 := Bool.eq_false_iff.2 c3
 injection h with h; subst h
 simp only [ir,TT,Ic.t,ci,reduceEqDiff,reduceIte,reduceAdd,reduceLT,reduceCtorEq,reduceToNat,hl,k2,c3,CL,LTN]
 first | exact hK | (simp only [hl,k2,c3,CL] at hK; exact hK)
theorem mf (p1 : ac) (r : Bool) (h : cg p1 = some r) (lk : Bool) (d : Option Nat) (K : ap) (fr : TF) (tk : TK) (τ : TH) (hl : τ.lock ≤ τ.next) : fj G lk jw [.agg [.str p1.ID,.sl (List.map af.tv p1.Parties),.sl (List.map aa.tv p1.Arcs),.sl (List.map (TV.int .i64) p1.Leaders),.sl (List.map TV.str p1.Locks),.int .i64 p1.Start,.int .i64 p1.Delta]] d K fr tk τ = K (eo fr d (.bool r)) tk τ :=
 av (zcih p1 r h τ  hl) (zcih p1 r h (τ.locked τ.next)  (Nat.le_refl _) ) (by simp only [TT,Ic.t,ci,reduceEqDiff,reduceIte,reduceAdd,reduceLT,reduceCtorEq,reduceToNat,hl,CL,LTN])
def dy (p1 : ac) : Option Bool :=
 dl p1 >>= fun y1 =>
 if y1 = true then
  cg p1 >>= fun y4 =>
  some y4
 else
 some false
theorem zcgs (p1 : ac) (r : Bool) (h : dy p1 = some r) (τ : TH) (hl : τ.lock ≤ τ.next) : Ru G mj [.agg [.str p1.ID,.sl (List.map af.tv p1.Parties),.sl (List.map aa.tv p1.Arcs),.sl (List.map (TV.int .i64) p1.Leaders),.sl (List.map TV.str p1.Locks),.int .i64 p1.Start,.int .i64 p1.Delta]] τ (.bool r) τ := by
 refine kb fun K hK => ?_
 rw [cb zcq9 (Nat.le_of_ble_eq_true rfl)]
 unfold dy at h
 obtain ⟨y1,hy1,h⟩ := ob h
 have k2 := oh p1 _ hy1
 try simp only [CL,MC,reduceToNat] at k2
 by_cases c3 : y1 = true
 · rw [if_pos c3] at h
   obtain ⟨y4,hy4,h⟩ := ob h
   have k5 := mf p1 _ hy4
   try simp only [CL,MC,reduceToNat] at k5
   injection h with h; subst h
   simp only [zcbz,TT,Ic.t,ci,reduceEqDiff,reduceIte,reduceAdd,reduceLT,reduceCtorEq,reduceToNat,hl,k2,c3,k5,CL,LTN]
   first | exact hK | (simp only [hl,k2,c3,k5,CL] at hK; exact hK)
 rw [if_neg c3] at h
 have c3 := Bool.eq_false_iff.2 c3
 injection h with h; subst h
 simp only [zcbz,TT,Ic.t,ci,reduceEqDiff,reduceIte,reduceAdd,reduceLT,reduceCtorEq,reduceToNat,hl,k2,c3,CL,LTN]
 first | exact hK | (simp only [hl,k2,c3,CL] at hK; exact hK)
theorem nf (p1 : ac) (r : Bool) (h : dy p1 = some r) (lk : Bool) (d : Option Nat) (K : ap) (fr : TF) (tk : TK) (τ : TH) (hl : τ.lock ≤ τ.next) : fj G lk mj [.agg [.str p1.ID,.sl (List.map af.tv p1.Parties),.sl (List.map aa.tv p1.Arcs),.sl (List.map (TV.int .i64) p1.Leaders),.sl (List.map TV.str p1.Locks),.int .i64 p1.Start,.int .i64 p1.Delta]] d K fr tk τ = K (eo fr d (.bool r)) tk τ :=
 av (zcgs p1 r h τ  hl) (zcgs p1 r h (τ.locked τ.next)  (Nat.le_refl _) ) (by simp only [TT,Ic.t,ci,reduceEqDiff,reduceIte,reduceAdd,reduceLT,reduceCtorEq,reduceToNat,hl,CL,LTN])
def oq (p1 : aa) (p2 : (List Int)) (p3 : Int) (p4 : Int) : Option Bool :=
 ixL p2 (IntKind.i64.wrap (p3 - (1 : Int))) >>= fun y1 =>
 if p1.From = y1 then
  some (decide (p1.To = p4))
 else
 some false
theorem zchx (p1 : aa) (p2 : (List Int)) (p3 : Int) (p4 : Int) (r : Bool) (h : oq p1 p2 p3 p4 = some r) (τ : TH) (o0 : Nat) (o1 : Nat) (o2 : Nat) (hl : τ.lock ≤ τ.next) (ha0 : τ.at o0 = some ⟨zl,[.sl (List.map (TV.int .i64) p2)]⟩) (hi0 : o0 < τ.next) (ha1 : τ.at o1 = some ⟨dq,[.int .i64 p3]⟩) (hi1 : o1 < τ.next) (ha2 : τ.at o2 = some ⟨dq,[.int .i64 p4]⟩) (hi2 : o2 < τ.next) : Ru G gf [.agg [.int .i64 p1.From,.int .i64 p1.To,.int .i64 p1.Ledger,.str p1.Asset,.int .i64 p1.Amount],.ptr o0 0,.ptr o1 0,.ptr o2 0] τ (.bool r) τ := by
 refine kb fun K hK => ?_
 rw [cb zcr2 (Nat.le_of_ble_eq_true rfl)]
 unfold oq at h
 obtain ⟨y1,hy1,h⟩ := ob h
 have f2 := bv hy1
 have f2a := (f2.2.2 (TV.int .i64)).1
 have f2b := (f2.2.2 (TV.int .i64)).2
 try simp only [CL,MC,reduceToNat] at f2 f2a f2b
 by_cases c3 : p1.From = y1
 · rw [if_pos c3] at h
   injection h with h; subst h
   simp only [zcdv,TT,Ic.t,ci,reduceEqDiff,reduceIte,reduceAdd,reduceLT,reduceCtorEq,reduceToNat,hl,ha0,hi0,ha1,hi1,ha2,hi2,f2.1,f2.2.1,f2a,f2b,eq_true c3,CL,LTN]
   exact hK
 rw [if_neg c3] at h
 injection h with h; subst h
 simp only [zcdv,TT,Ic.t,ci,reduceEqDiff,reduceIte,reduceAdd,reduceLT,reduceCtorEq,reduceToNat,hl,ha0,hi0,ha1,hi1,ha2,hi2,f2.1,f2.2.1,f2a,f2b,c3,CL,LTN]
 exact hK
theorem zcsz (p1 : aa) (p2 : (List Int)) (p3 : Int) (p4 : Int) (r : Bool) (h : oq p1 p2 p3 p4 = some r) (lk : Bool) (d : Option Nat) (K : ap) (fr : TF) (tk : TK) (τ : TH) (o0 : Nat) (o1 : Nat) (o2 : Nat) (hl : τ.lock ≤ τ.next) (ha0 : τ.at o0 = some ⟨zl,[.sl (List.map (TV.int .i64) p2)]⟩) (hi0 : o0 < τ.next) (ha1 : τ.at o1 = some ⟨dq,[.int .i64 p3]⟩) (hi1 : o1 < τ.next) (ha2 : τ.at o2 = some ⟨dq,[.int .i64 p4]⟩) (hi2 : o2 < τ.next) : fj G lk gf [.agg [.int .i64 p1.From,.int .i64 p1.To,.int .i64 p1.Ledger,.str p1.Asset,.int .i64 p1.Amount],.ptr o0 0,.ptr o1 0,.ptr o2 0] d K fr tk τ = K (eo fr d (.bool r)) tk τ :=
 av (zchx p1 p2 p3 p4 r h τ o0 o1 o2 hl ha0 hi0 ha1 hi1 ha2 hi2) (zchx p1 p2 p3 p4 r h (τ.locked τ.next) o0 o1 o2 (Nat.le_refl _) (by rw [za4o]; exact ha0) hi0 (by rw [za4o]; exact ha1) hi1 (by rw [za4o]; exact ha2) hi2) (by simp only [TT,Ic.t,ci,reduceEqDiff,reduceIte,reduceAdd,reduceLT,reduceCtorEq,reduceToNat,hl,ha0,hi0,ha1,hi1,ha2,hi2,CL,LTN])
def ar (v0 : (List aa)) (v1 : (List Int)) (v2 : Int) (v3 : Int) (v4 : Int) (v5 : Int) : Option (LS (Int) (LX (Unit) (Int))) :=
 if v5 < v4 then
  ixL v0 v5 >>= fun y2 =>
  oq (⟨y2.From,y2.To,y2.Ledger,y2.Asset,y2.Amount⟩ : aa) v1 v2 v3 >>= fun y4 =>
  if y4 = true then
   some (.dn (.rt v5))
  else
  some (.nx (IntKind.i64.wrap (v5 + (1 : Int))))
 else
 some (.dn (.ex ()))
def bd (v0 : (List aa)) (v1 : (List Int)) (v2 : Int) (v3 : Int) (v4 : Int) (v5 : Int) : Option (LX (Unit) (Int)) := qc (fun st => ar v0 v1 v2 v3 v4 st) v5
theorem jc (v0 : (List aa)) (v1 : (List Int)) (v2 : Int) (v3 : Int) (v4 : Int) (v5 : Int) : bd v0 v1 v2 v3 v4 v5 = ar v0 v1 v2 v3 v4 v5 >>= LS.go (fun st => bd v0 v1 v2 v3 v4 st) := ij (fun st => ar v0 v1 v2 v3 v4 st) v5
def db (v0 : (List aa)) (v1 : (List Int)) (v2 : Int) (v3 : Int) (v4 : Int) (v5 : Int) (r : LX (Unit) (Int)) : Prop := ∀ (τ : TH) (o0 : Nat) (o1 : Nat) (o2 : Nat) (hl : τ.lock ≤ τ.next) (ha0 : τ.at o0 = some ⟨zl,[.sl (List.map (TV.int .i64) v1)]⟩) (hi0 : o0 < τ.next) (ha1 : τ.at o1 = some ⟨dq,[.int .i64 v2]⟩) (hi1 : o1 < τ.next) (ha2 : τ.at o2 = some ⟨dq,[.int .i64 v3]⟩) (hi2 : o2 < τ.next) (Q : TEx → ap) (hQ0 : ∀ v : Unit,r = (.ex v) → ∀ (fr : TF) (tk2 : TK) (τ2 : TH),tk2.take 0 = [] → τ2.cut τ.next = τ → Q (.exit 0) fr tk2 τ2) (hQ1 : ∀ v : Int,r = (.rt v) → ∀ (tk2 : TK) (τ2 : TH),τ2.cut τ.next = τ → Q .ret [(4,.int .i64 v)] tk2 τ2) ,tW G (.loop [0,1,7,8] ce) Q [(0,.sl (List.map aa.tv v0)),(1,.func gf [] [.ptr o0 0,.ptr o1 0,.ptr o2 0]),(7,.int .i64 v4),(8,.int .i64 v5)] [] τ
theorem pw (v0 : (List aa)) (v1 : (List Int)) (v2 : Int) (v3 : Int) (v4 : Int) (v5 : Int) (r : LX (Unit) (Int)) (h : bd v0 v1 v2 v3 v4 v5 = some r) : db v0 v1 v2 v3 v4 v5 r := by
 refine fi (f := fun st => ar v0 v1 v2 v3 v4 st) (P := fun st r => ∀ (v5 : Int),v5 = st → db v0 v1 v2 v3 v4 v5 r) ?_ h v5 rfl
 clear h r v5
 intro st o h r ih v5 hst τ o0 o1 o2  hl ha0 hi0 ha1 hi1 ha2 hi2 Q hQ0 hQ1
 subst hst
 have h : ar v0 v1 v2 v3 v4 v5 = some o := h
 unfold ar at h
 refine nk fun LQ hn hr he => ?_
 by_cases c1 : v5 < v4
 · rw [if_pos c1] at h
   obtain ⟨y2,hy2,h⟩ := ob h
   have f3 := bv hy2
   have f3a := (f3.2.2 aa.tv).1
   have f3b := (f3.2.2 aa.tv).2
   try simp only [CL,MC,reduceToNat] at f3 f3a f3b
   obtain ⟨y4,hy4,h⟩ := ob h
   have k5 := zcsz (⟨y2.From,y2.To,y2.Ledger,y2.Asset,y2.Amount⟩ : aa) v1 v2 v3 _ hy4
   try simp only [CL,MC,reduceToNat] at k5
   by_cases c6 : y4 = true
   · rw [if_pos c6] at h
     injection h with h; subst h
     obtain rfl : _ = r := ih
     simp only [ce,br,TT,Ic.t,ci,reduceEqDiff,reduceIte,reduceAdd,reduceLT,reduceCtorEq,reduceToNat,hl,ha0,hi0,ha1,hi1,ha2,hi2,he,hr,c1,f3.1,f3.2.1,f3a,f3b,k5,c6,CL,LTN]
     exact hQ1 v5 rfl  _ _  (by first | exact jd (Nat.le_refl _) | (simp only [TT,Ic.t,ci,reduceEqDiff,reduceIte,reduceAdd,reduceLT,reduceCtorEq,reduceToNat,hl,ha0,hi0,ha1,hi1,ha2,hi2,c1,f3.1,f3.2.1,f3a,f3b,k5,c6,CL,LTN]))
   rw [if_neg c6] at h
   have c6 := Bool.eq_false_iff.2 c6
   injection h with h; subst h
   have ih := ih (IntKind.i64.wrap (v5 + (1 : Int))) rfl
   unfold db at ih
   simp only [ce,br,TT,Ic.t,ci,reduceEqDiff,reduceIte,reduceAdd,reduceLT,reduceCtorEq,reduceToNat,hl,ha0,hi0,ha1,hi1,ha2,hi2,c1,f3.1,f3.2.1,f3a,f3b,k5,c6,CL,LTN]
   rw [hn]
   simp only [TT,Ic.t,ci,reduceEqDiff,reduceIte,reduceAdd,reduceLT,reduceCtorEq,reduceToNat,hl,ha0,hi0,ha1,hi1,ha2,hi2,c1,f3.1,f3.2.1,f3a,f3b,k5,c6,CL,LTN]
   exact ih  τ o0 o1 o2   (by first | assumption | (simp only [ag,ah]; assumption)) (by simp only [TT,Ic.t,ci,reduceEqDiff,reduceIte,reduceAdd,reduceLT,reduceCtorEq,reduceToNat,hl,ha0,hi0,ha1,hi1,ha2,hi2,c1,f3.1,f3.2.1,f3a,f3b,k5,c6,CL,LTN]) (by first | assumption | (simp only [ag,ah]; assumption)) (by simp only [TT,Ic.t,ci,reduceEqDiff,reduceIte,reduceAdd,reduceLT,reduceCtorEq,reduceToNat,hl,ha0,hi0,ha1,hi1,ha2,hi2,c1,f3.1,f3.2.1,f3a,f3b,k5,c6,CL,LTN]) (by first | assumption | (simp only [ag,ah]; assumption)) (by simp only [TT,Ic.t,ci,reduceEqDiff,reduceIte,reduceAdd,reduceLT,reduceCtorEq,reduceToNat,hl,ha0,hi0,ha1,hi1,ha2,hi2,c1,f3.1,f3.2.1,f3a,f3b,k5,c6,CL,LTN]) (by first | assumption | (simp only [ag,ah]; assumption)) Q hQ0 hQ1
 rw [if_neg c1] at h
 injection h with h; subst h
 obtain rfl : _ = r := ih
 simp only [ce,br,TT,Ic.t,ci,reduceEqDiff,reduceIte,reduceAdd,reduceLT,reduceCtorEq,reduceToNat,hl,ha0,hi0,ha1,hi1,ha2,hi2,he,hr,c1,CL,LTN]
 exact hQ0 () rfl  _ _ _   (by first | rfl | (simp only [TT,Ic.t,ci,reduceEqDiff,reduceIte,reduceAdd,reduceLT,reduceCtorEq,reduceToNat,hl,ha0,hi0,ha1,hi1,ha2,hi2,c1,CL,LTN])) (by first | exact jd (Nat.le_refl _) | (simp only [TT,Ic.t,ci,reduceEqDiff,reduceIte,reduceAdd,reduceLT,reduceCtorEq,reduceToNat,hl,ha0,hi0,ha1,hi1,ha2,hi2,c1,CL,LTN]))
def cv (p1 : (List aa)) (p2 : (List Int)) (p3 : Int) (p4 : Int) : Option Int :=
 bd p1 p2 p3 p4 ((p1.length : Nat) : Int) (0 : Int) >>= fun y1 =>
 match y1 with
 | .ex w2 =>
  some (-1 : Int)
 | .rt w4 =>
  some w4
theorem kf (p1 : (List aa)) (p2 : (List Int)) (p3 : Int) (p4 : Int) (r : Int) (h : cv p1 p2 p3 p4 = some r) (τ : TH) (o0 : Nat) (o1 : Nat) (o2 : Nat) (hl : τ.lock ≤ τ.next) (ha0 : τ.at o0 = some ⟨zl,[.sl (List.map (TV.int .i64) p2)]⟩) (hi0 : o0 < τ.next) (ha1 : τ.at o1 = some ⟨dq,[.int .i64 p3]⟩) (hi1 : o1 < τ.next) (ha2 : τ.at o2 = some ⟨dq,[.int .i64 p4]⟩) (hi2 : o2 < τ.next) : Ru G bu [.sl (List.map aa.tv p1),.func gf [] [.ptr o0 0,.ptr o1 0,.ptr o2 0]] τ (.int .i64 r) τ := by
 refine kb fun K hK => ?_
 rw [cb vg (Nat.le_of_ble_eq_true rfl)]
 unfold cv at h
 obtain ⟨y1,hy1,h⟩ := ob h
 simp only [br,TT,Ic.t,ci,reduceEqDiff,reduceIte,reduceAdd,reduceLT,reduceCtorEq,reduceToNat,hl,ha0,hi0,ha1,hi1,ha2,hi2,CL,LTN]
 have Sy1 := pw p1 p2 p3 p4 ((p1.length : Nat) : Int) (0 : Int) y1 hy1
 unfold db at Sy1
 refine Sy1 _ o0 o1 o2 (by first | assumption | omega | (simp only [ag,ak,ah,ay]; omega)) (by simp only [TT,Ic.t,ci,reduceEqDiff,reduceIte,reduceAdd,reduceLT,reduceCtorEq,reduceToNat,hl,ha0,hi0,ha1,hi1,ha2,hi2,CL,LTN]) (by first | assumption | omega | (simp only [ag,ak,ah,ay]; omega)) (by simp only [TT,Ic.t,ci,reduceEqDiff,reduceIte,reduceAdd,reduceLT,reduceCtorEq,reduceToNat,hl,ha0,hi0,ha1,hi1,ha2,hi2,CL,LTN]) (by first | assumption | omega | (simp only [ag,ak,ah,ay]; omega)) (by simp only [TT,Ic.t,ci,reduceEqDiff,reduceIte,reduceAdd,reduceLT,reduceCtorEq,reduceToNat,hl,ha0,hi0,ha1,hi1,ha2,hi2,CL,LTN]) (by first | assumption | omega | (simp only [ag,ak,ah,ay]; omega)) _ ?_ ?_
 · intro w2 e frq3 tkq3 τq3 htq3 hcq3
   subst e
   simp only at h
   have hcq3 := eu (n := τ.next) hcq3 (by first | omega | (simp only [ag,ak]; omega))
   try simp only [List.take_succ_cons,List.take_zero,List.take_nil,CL] at htq3
   try simp only [TT,Ic.t,ci,reduceEqDiff,reduceIte,reduceAdd,reduceLT,reduceCtorEq,reduceToNat,hl,ha0,hi0,ha1,hi1,ha2,hi2,CL,LTN] at hcq3
   injection h with h; subst h
   simp only [br,TT,Ic.t,ci,reduceEqDiff,reduceIte,reduceAdd,reduceLT,reduceCtorEq,reduceToNat,hl,ha0,hi0,ha1,hi1,ha2,hi2,htq3,hcq3,CL,LTN]
   exact hK
 intro w4 e tkq5 τq5 hcq5
 subst e
 simp only at h
 have hcq5 := eu (n := τ.next) hcq5 (by first | omega | (simp only [ag,ak]; omega))
 try simp only [TT,Ic.t,ci,reduceEqDiff,reduceIte,reduceAdd,reduceLT,reduceCtorEq,reduceToNat,hl,ha0,hi0,ha1,hi1,ha2,hi2,CL,LTN] at hcq5
 injection h with h; subst h
 simp only [br,TT,Ic.t,ci,reduceEqDiff,reduceIte,reduceAdd,reduceLT,reduceCtorEq,reduceToNat,hl,ha0,hi0,ha1,hi1,ha2,hi2,hcq5,CL,LTN]
 exact hK
theorem si (p1 : (List aa)) (p2 : (List Int)) (p3 : Int) (p4 : Int) (r : Int) (h : cv p1 p2 p3 p4 = some r) (lk : Bool) (d : Option Nat) (K : ap) (fr : TF) (tk : TK) (τ : TH) (o0 : Nat) (o1 : Nat) (o2 : Nat) (hl : τ.lock ≤ τ.next) (ha0 : τ.at o0 = some ⟨zl,[.sl (List.map (TV.int .i64) p2)]⟩) (hi0 : o0 < τ.next) (ha1 : τ.at o1 = some ⟨dq,[.int .i64 p3]⟩) (hi1 : o1 < τ.next) (ha2 : τ.at o2 = some ⟨dq,[.int .i64 p4]⟩) (hi2 : o2 < τ.next) : fj G lk bu [.sl (List.map aa.tv p1),.func gf [] [.ptr o0 0,.ptr o1 0,.ptr o2 0]] d K fr tk τ = K (eo fr d (.int .i64 r)) tk τ :=
 av (kf p1 p2 p3 p4 r h τ o0 o1 o2 hl ha0 hi0 ha1 hi1 ha2 hi2) (kf p1 p2 p3 p4 r h (τ.locked τ.next) o0 o1 o2 (Nat.le_refl _) (by rw [za4o]; exact ha0) hi0 (by rw [za4o]; exact ha1) hi1 (by rw [za4o]; exact ha2) hi2) (by simp only [TT,Ic.t,ci,reduceEqDiff,reduceIte,reduceAdd,reduceLT,reduceCtorEq,reduceToNat,hl,ha0,hi0,ha1,hi1,ha2,hi2,CL,LTN])
def bf (p1 : (List aa)) (p2 : (List Int)) (p3 : Int) (p4 : Int) : Option Bool :=
 cv p1 p2 p3 p4 >>= fun y1 =>
 some (decide ((0 : Int) ≤ y1))
theorem jh (p1 : (List aa)) (p2 : (List Int)) (p3 : Int) (p4 : Int) (r : Bool) (h : bf p1 p2 p3 p4 = some r) (τ : TH) (o0 : Nat) (o1 : Nat) (o2 : Nat) (hl : τ.lock ≤ τ.next) (ha0 : τ.at o0 = some ⟨zl,[.sl (List.map (TV.int .i64) p2)]⟩) (hi0 : o0 < τ.next) (ha1 : τ.at o1 = some ⟨dq,[.int .i64 p3]⟩) (hi1 : o1 < τ.next) (ha2 : τ.at o2 = some ⟨dq,[.int .i64 p4]⟩) (hi2 : o2 < τ.next) : Ru G bg [.sl (List.map aa.tv p1),.func gf [] [.ptr o0 0,.ptr o1 0,.ptr o2 0]] τ (.bool r) τ := by
 refine kb fun K hK => ?_
 rw [cb sb (Nat.le_of_ble_eq_true rfl)]
 unfold bf at h
 obtain ⟨y1,hy1,h⟩ := ob h
 have k2 := si p1 p2 p3 p4 _ hy1
 try simp only [CL,MC,reduceToNat] at k2
 injection h with h; subst h
 simp only [sd,TT,Ic.t,ci,reduceEqDiff,reduceIte,reduceAdd,reduceLT,reduceCtorEq,reduceToNat,hl,ha0,hi0,ha1,hi1,ha2,hi2,k2,CL,LTN]
 exact hK
theorem p9 (p1 : (List aa)) (p2 : (List Int)) (p3 : Int) (p4 : Int) (r : Bool) (h : bf p1 p2 p3 p4 = some r) (lk : Bool) (d : Option Nat) (K : ap) (fr : TF) (tk : TK) (τ : TH) (o0 : Nat) (o1 : Nat) (o2 : Nat) (hl : τ.lock ≤ τ.next) (ha0 : τ.at o0 = some ⟨zl,[.sl (List.map (TV.int .i64) p2)]⟩) (hi0 : o0 < τ.next) (ha1 : τ.at o1 = some ⟨dq,[.int .i64 p3]⟩) (hi1 : o1 < τ.next) (ha2 : τ.at o2 = some ⟨dq,[.int .i64 p4]⟩) (hi2 : o2 < τ.next) : fj G lk bg [.sl (List.map aa.tv p1),.func gf [] [.ptr o0 0,.ptr o1 0,.ptr o2 0]] d K fr tk τ = K (eo fr d (.bool r)) tk τ :=
 av (jh p1 p2 p3 p4 r h τ o0 o1 o2 hl ha0 hi0 ha1 hi1 ha2 hi2) (jh p1 p2 p3 p4 r h (τ.locked τ.next) o0 o1 o2 (Nat.le_refl _) (by rw [za4o]; exact ha0) hi0 (by rw [za4o]; exact ha1) hi1 (by rw [za4o]; exact ha2) hi2) (by simp only [TT,Ic.t,ci,reduceEqDiff,reduceIte,reduceAdd,reduceLT,reduceCtorEq,reduceToNat,hl,ha0,hi0,ha1,hi1,ha2,hi2,CL,LTN])
def dh (v0 : ac) (v1 : (List Int)) (v2 : (List Int)) (v3 : Int) (v4 : Int) : Option (LS (Int) (LX (Unit) (Bool))) :=
 if v4 < v3 then
  ixL v2 v4 >>= fun y2 =>
  if y2 < (0 : Int) then
   some (.dn (.rt false))
  else
  if ((v0.Parties.length : Nat) : Int) ≤ y2 then
   some (.dn (.rt false))
  else
  if ¬ v1 = [] then
   if 0 ≤ v4 ∧ v4 ≤ (v1.length : Int) then
    dc (v1.take v4.toNat) y2 >>= fun y11 =>
    if y11 = true then
     some (.dn (.rt false))
    else
    if (0 : Int) < v4 then
     bf v0.Arcs v1 v4 y2 >>= fun y15 =>
     if y15 = true then
      some (.nx (IntKind.i64.wrap (v4 + (1 : Int))))
     else
     some (.dn (.rt false))
    else
    some (.nx (IntKind.i64.wrap (v4 + (1 : Int))))
   else
    none
  else
   none
 else
 some (.dn (.ex ()))
def ek (v0 : ac) (v1 : (List Int)) (v2 : (List Int)) (v3 : Int) (v4 : Int) : Option (LX (Unit) (Bool)) := qc (fun st => dh v0 v1 v2 v3 st) v4
theorem vt (v0 : ac) (v1 : (List Int)) (v2 : (List Int)) (v3 : Int) (v4 : Int) : ek v0 v1 v2 v3 v4 = dh v0 v1 v2 v3 v4 >>= LS.go (fun st => ek v0 v1 v2 v3 st) := ij (fun st => dh v0 v1 v2 v3 st) v4
def ng (v0 : ac) (v1 : (List Int)) (v2 : (List Int)) (v3 : Int) (v4 : Int) (r : LX (Unit) (Bool)) : Prop := ∀ (τ : TH) (o0 : Nat) (o1 : Nat) (hl : τ.lock ≤ τ.next) (ha0 : τ.at o0 = some ⟨aw,[.str v0.ID,.sl (List.map af.tv v0.Parties),.sl (List.map aa.tv v0.Arcs),.sl (List.map (TV.int .i64) v0.Leaders),.sl (List.map TV.str v0.Locks),.int .i64 v0.Start,.int .i64 v0.Delta]⟩) (hi0 : o0 < τ.next) (ha1 : τ.at o1 = some ⟨zl,[.sl (List.map (TV.int .i64) v1)]⟩) (hi1 : o1 < τ.next) (Q : TEx → ap) (hQ0 : ∀ v : Unit,r = (.ex v) → ∀ (fr : TF) (tk2 : TK) (τ2 : TH),tk2.take 0 = [] → τ2.cut τ.next = τ → Q (.exit 0) fr tk2 τ2) (hQ1 : ∀ v : Bool,r = (.rt v) → ∀ (tk2 : TK) (τ2 : TH),τ2.cut τ.next = τ → Q .ret [(4,.bool v)] tk2 τ2) ,tW G (.loop [2,3,15,16,17] je) Q [(2,.ptr o0 0),(3,.ptr o1 0),(15,.sl (List.map (TV.int .i64) v2)),(16,.int .i64 v3),(17,.int .i64 v4)] [] τ
theorem zctm (v0 : ac) (v1 : (List Int)) (v2 : (List Int)) (v3 : Int) (v4 : Int) (r : LX (Unit) (Bool)) (h : ek v0 v1 v2 v3 v4 = some r) : ng v0 v1 v2 v3 v4 r := by
 refine fi (f := fun st => dh v0 v1 v2 v3 st) (P := fun st r => ∀ (v4 : Int),v4 = st → ng v0 v1 v2 v3 v4 r) ?_ h v4 rfl
 clear h r v4
 intro st o h r ih v4 hst τ o0 o1  hl ha0 hi0 ha1 hi1 Q hQ0 hQ1
 subst hst
 have h : dh v0 v1 v2 v3 v4 = some o := h
 unfold dh at h
 refine nk fun LQ hn hr he => ?_
 by_cases c1 : v4 < v3
 · rw [if_pos c1] at h
   obtain ⟨y2,hy2,h⟩ := ob h
   have f3 := bv hy2
   have f3a := (f3.2.2 (TV.int .i64)).1
   have f3b := (f3.2.2 (TV.int .i64)).2
   try simp only [CL,MC,reduceToNat] at f3 f3a f3b
   by_cases c4 : y2 < (0 : Int)
   · rw [if_pos c4] at h
     injection h with h; subst h
     obtain rfl : _ = r := ih
     simp only [je,iq,TT,Ic.t,ci,reduceEqDiff,reduceIte,reduceAdd,reduceLT,reduceCtorEq,reduceToNat,hl,ha0,hi0,ha1,hi1,he,hr,c1,f3.1,f3.2.1,f3a,f3b,c4,CL,LTN]
     exact hQ1 false rfl  _ _  (by first | exact jd (Nat.le_refl _) | (simp only [TT,Ic.t,ci,reduceEqDiff,reduceIte,reduceAdd,reduceLT,reduceCtorEq,reduceToNat,hl,ha0,hi0,ha1,hi1,c1,f3.1,f3.2.1,f3a,f3b,c4,CL,LTN]))
   rw [if_neg c4] at h
   by_cases c5 : ((v0.Parties.length : Nat) : Int) ≤ y2
   · rw [if_pos c5] at h
     injection h with h; subst h
     obtain rfl : _ = r := ih
     simp only [je,iq,TT,Ic.t,ci,reduceEqDiff,reduceIte,reduceAdd,reduceLT,reduceCtorEq,reduceToNat,hl,ha0,hi0,ha1,hi1,he,hr,c1,f3.1,f3.2.1,f3a,f3b,c4,c5,CL,LTN]
     exact hQ1 false rfl  _ _  (by first | exact jd (Nat.le_refl _) | (simp only [TT,Ic.t,ci,reduceEqDiff,reduceIte,reduceAdd,reduceLT,reduceCtorEq,reduceToNat,hl,ha0,hi0,ha1,hi1,c1,f3.1,f3.2.1,f3a,f3b,c4,c5,CL,LTN]))
   rw [if_neg c5] at h
   obtain ⟨c6,h⟩ := ifS h
   obtain ⟨c7,h⟩ := ifS h
   have f8 : ((List.map (TV.int .i64) v1).all fun e => e.cells.length == 1) = true := zbd2 (fun _ => rfl) _
   have f9 : (!(List.map (TV.int .i64) v1).isEmpty) = true := zcwi c6
   have f10 : (List.map (TV.int .i64) v1).take v4.toNat = List.map (TV.int .i64) (v1.take v4.toNat) := List.map_take.symm
   obtain ⟨y11,hy11,h⟩ := ob h
   have k12 := pz (v1.take v4.toNat) y2 _ hy11
   try simp only [CL,MC,reduceToNat] at k12
   by_cases c13 : y11 = true
   · rw [if_pos c13] at h
     injection h with h; subst h
     obtain rfl : _ = r := ih
     simp only [je,iq,TT,Ic.t,ci,reduceEqDiff,reduceIte,reduceAdd,reduceLT,reduceCtorEq,reduceToNat,hl,ha0,hi0,ha1,hi1,he,hr,c1,f3.1,f3.2.1,f3a,f3b,c4,c5,c7,f8,f9,f10,k12,c13,CL,LTN]
     exact hQ1 false rfl  _ _  (by first | exact jd (Nat.le_refl _) | (simp only [TT,Ic.t,ci,reduceEqDiff,reduceIte,reduceAdd,reduceLT,reduceCtorEq,reduceToNat,hl,ha0,hi0,ha1,hi1,c1,f3.1,f3.2.1,f3a,f3b,c4,c5,c7,f8,f9,f10,k12,c13,CL,LTN]))
   rw [if_neg c13] at h
   have c13 := Bool.eq_false_iff.2 c13
   by_cases c14 : (0 : Int) < v4
   · rw [if_pos c14] at h
     obtain ⟨y15,hy15,h⟩ := ob h
     have k16 := p9 v0.Arcs v1 v4 y2 _ hy15
     try simp only [CL,MC,reduceToNat] at k16
     by_cases c17 : y15 = true
     · rw [if_pos c17] at h
       injection h with h; subst h
       have ih := ih (IntKind.i64.wrap (v4 + (1 : Int))) rfl
       unfold ng at ih
       simp only [je,iq,TT,Ic.t,ci,reduceEqDiff,reduceIte,reduceAdd,reduceLT,reduceCtorEq,reduceToNat,hl,ha0,hi0,ha1,hi1,c1,f3.1,f3.2.1,f3a,f3b,c4,c5,c7,f8,f9,f10,k12,c13,c14,k16,c17,CL,LTN]
       rw [hn]
       simp only [TT,Ic.t,ci,reduceEqDiff,reduceIte,reduceAdd,reduceLT,reduceCtorEq,reduceToNat,hl,ha0,hi0,ha1,hi1,c1,f3.1,f3.2.1,f3a,f3b,c4,c5,c7,f8,f9,f10,k12,c13,c14,k16,c17,CL,LTN]
       exact ih  τ o0 o1   (by first | assumption | (simp only [ag,ah]; assumption)) (by simp only [TT,Ic.t,ci,reduceEqDiff,reduceIte,reduceAdd,reduceLT,reduceCtorEq,reduceToNat,hl,ha0,hi0,ha1,hi1,c1,f3.1,f3.2.1,f3a,f3b,c4,c5,c7,f8,f9,f10,k12,c13,c14,k16,c17,CL,LTN]) (by first | assumption | (simp only [ag,ah]; assumption)) (by simp only [TT,Ic.t,ci,reduceEqDiff,reduceIte,reduceAdd,reduceLT,reduceCtorEq,reduceToNat,hl,ha0,hi0,ha1,hi1,c1,f3.1,f3.2.1,f3a,f3b,c4,c5,c7,f8,f9,f10,k12,c13,c14,k16,c17,CL,LTN]) (by first | assumption | (simp only [ag,ah]; assumption)) Q hQ0 hQ1
     rw [if_neg c17] at h
     have c17 := Bool.eq_false_iff.2 c17
     injection h with h; subst h
     obtain rfl : _ = r := ih
     simp only [je,iq,TT,Ic.t,ci,reduceEqDiff,reduceIte,reduceAdd,reduceLT,reduceCtorEq,reduceToNat,hl,ha0,hi0,ha1,hi1,he,hr,c1,f3.1,f3.2.1,f3a,f3b,c4,c5,c7,f8,f9,f10,k12,c13,c14,k16,c17,CL,LTN]
     exact hQ1 false rfl  _ _  (by first | exact jd (Nat.le_refl _) | (simp only [TT,Ic.t,ci,reduceEqDiff,reduceIte,reduceAdd,reduceLT,reduceCtorEq,reduceToNat,hl,ha0,hi0,ha1,hi1,c1,f3.1,f3.2.1,f3a,f3b,c4,c5,c7,f8,f9,f10,k12,c13,c14,k16,c17,CL,LTN]))
   rw [if_neg c14] at h
   injection h with h; subst h
   have ih := ih (IntKind.i64.wrap (v4 + (1 : Int))) rfl
   unfold ng at ih
   simp only [je,iq,TT,Ic.t,ci,reduceEqDiff,reduceIte,reduceAdd,reduceLT,reduceCtorEq,reduceToNat,hl,ha0,hi0,ha1,hi1,c1,f3.1,f3.2.1,f3a,f3b,c4,c5,c7,f8,f9,f10,k12,c13,c14,CL,LTN]
   rw [hn]
   simp only [TT,Ic.t,ci,reduceEqDiff,reduceIte,reduceAdd,reduceLT,reduceCtorEq,reduceToNat,hl,ha0,hi0,ha1,hi1,c1,f3.1,f3.2.1,f3a,f3b,c4,c5,c7,f8,f9,f10,k12,c13,c14,CL,LTN]
   exact ih  τ o0 o1   (by first | assumption | (simp only [ag,ah]; assumption)) (by simp only [TT,Ic.t,ci,reduceEqDiff,reduceIte,reduceAdd,reduceLT,reduceCtorEq,reduceToNat,hl,ha0,hi0,ha1,hi1,c1,f3.1,f3.2.1,f3a,f3b,c4,c5,c7,f8,f9,f10,k12,c13,c14,CL,LTN]) (by first | assumption | (simp only [ag,ah]; assumption)) (by simp only [TT,Ic.t,ci,reduceEqDiff,reduceIte,reduceAdd,reduceLT,reduceCtorEq,reduceToNat,hl,ha0,hi0,ha1,hi1,c1,f3.1,f3.2.1,f3a,f3b,c4,c5,c7,f8,f9,f10,k12,c13,c14,CL,LTN]) (by first | assumption | (simp only [ag,ah]; assumption)) Q hQ0 hQ1
 rw [if_neg c1] at h
 injection h with h; subst h
 obtain rfl : _ = r := ih
 simp only [je,iq,TT,Ic.t,ci,reduceEqDiff,reduceIte,reduceAdd,reduceLT,reduceCtorEq,reduceToNat,hl,ha0,hi0,ha1,hi1,he,hr,c1,CL,LTN]
 exact hQ0 () rfl  _ _ _   (by first | rfl | (simp only [TT,Ic.t,ci,reduceEqDiff,reduceIte,reduceAdd,reduceLT,reduceCtorEq,reduceToNat,hl,ha0,hi0,ha1,hi1,c1,CL,LTN])) (by first | exact jd (Nat.le_refl _) | (simp only [TT,Ic.t,ci,reduceEqDiff,reduceIte,reduceAdd,reduceLT,reduceCtorEq,reduceToNat,hl,ha0,hi0,ha1,hi1,c1,CL,LTN]))
def qd (p1 : ac) (p2 : (List Int)) : Option Bool :=
 ke p1 >>= fun y1 =>
 if y1 = true then
  if ((p2.length : Nat) : Int) = (0 : Int) then
   some false
  else
  ek p1 p2 p2 ((p2.length : Nat) : Int) (0 : Int) >>= fun y5 =>
  match y5 with
  | .ex w6 =>
   some true
  | .rt w8 =>
   some w8
 else
 some false
theorem zcen (p1 : ac) (p2 : (List Int)) (r : Bool) (h : qd p1 p2 = some r) (τ : TH) (hl : τ.lock ≤ τ.next) : Ru G qp [.agg [.str p1.ID,.sl (List.map af.tv p1.Parties),.sl (List.map aa.tv p1.Arcs),.sl (List.map (TV.int .i64) p1.Leaders),.sl (List.map TV.str p1.Locks),.int .i64 p1.Start,.int .i64 p1.Delta],.sl (List.map (TV.int .i64) p2)] τ (.bool r) τ := by
 refine kb fun K hK => ?_
 rw [cb zcwb (Nat.le_of_ble_eq_true rfl)]
 unfold qd at h
 obtain ⟨y1,hy1,h⟩ := ob h
 have k2 := sf p1 _ hy1
 try simp only [CL,MC,reduceToNat] at k2
 by_cases c3 : y1 = true
 · rw [if_pos c3] at h
   by_cases c4 : ((p2.length : Nat) : Int) = (0 : Int)
   · rw [if_pos c4] at h
     injection h with h; subst h
     simp only [iq,TT,Ic.t,ci,reduceEqDiff,reduceIte,reduceAdd,reduceLT,reduceCtorEq,reduceToNat,hl,k2,c3,eq_true c4,CL,LTN]
     first | exact hK | (simp only [hl,k2,c3,eq_true c4,CL] at hK; exact hK)
   rw [if_neg c4] at h
   obtain ⟨y5,hy5,h⟩ := ob h
   simp only [iq,TT,Ic.t,ci,reduceEqDiff,reduceIte,reduceAdd,reduceLT,reduceCtorEq,reduceToNat,hl,k2,c3,c4,CL,LTN]
   have Sy5 := zctm p1 p2 p2 ((p2.length : Nat) : Int) (0 : Int) y5 hy5
   unfold ng at Sy5
   refine Sy5 _ τ.next (τ.next + 1) (by first | assumption | omega | (simp only [ag,ak,ah,ay]; omega)) (by simp only [TT,Ic.t,ci,reduceEqDiff,reduceIte,reduceAdd,reduceLT,reduceCtorEq,reduceToNat,hl,k2,c3,c4,CL,LTN]) (by first | assumption | omega | (simp only [ag,ak,ah,ay]; omega)) (by simp only [TT,Ic.t,ci,reduceEqDiff,reduceIte,reduceAdd,reduceLT,reduceCtorEq,reduceToNat,hl,k2,c3,c4,CL,LTN]) (by first | assumption | omega | (simp only [ag,ak,ah,ay]; omega)) _ ?_ ?_
   · intro w6 e frq7 tkq7 τq7 htq7 hcq7
     subst e
     simp only at h
     have hcq7 := eu (n := τ.next + 2) hcq7 (by first | omega | (simp only [ag,ak]; omega))
     try simp only [List.take_succ_cons,List.take_zero,List.take_nil,CL] at htq7
     try simp only [TT,Ic.t,ci,reduceEqDiff,reduceIte,reduceAdd,reduceLT,reduceCtorEq,reduceToNat,hl,k2,c3,c4,CL,LTN] at hcq7
     injection h with h; subst h
     simp only [iq,TT,Ic.t,ci,reduceEqDiff,reduceIte,reduceAdd,reduceLT,reduceCtorEq,reduceToNat,hl,k2,c3,c4,htq7,hcq7,CL,LTN]
     first | exact hK | (simp only [hl,k2,c3,c4,htq7,hcq7,CL] at hK; exact hK)
   intro w8 e tkq9 τq9 hcq9
   subst e
   simp only at h
   have hcq9 := eu (n := τ.next) hcq9 (by first | omega | (simp only [ag,ak]; omega))
   try simp only [TT,Ic.t,ci,reduceEqDiff,reduceIte,reduceAdd,reduceLT,reduceCtorEq,reduceToNat,hl,k2,c3,c4,CL,LTN] at hcq9
   injection h with h; subst h
   simp only [iq,TT,Ic.t,ci,reduceEqDiff,reduceIte,reduceAdd,reduceLT,reduceCtorEq,reduceToNat,hl,k2,c3,c4,hcq9,CL,LTN]
   first | exact hK | (simp only [hl,k2,c3,c4,hcq9,CL] at hK; exact hK)
 rw [if_neg c3] at h
 have c3 := Bool.eq_false_iff.2 c3
 injection h with h; subst h
 simp only [iq,TT,Ic.t,ci,reduceEqDiff,reduceIte,reduceAdd,reduceLT,reduceCtorEq,reduceToNat,hl,k2,c3,CL,LTN]
 first | exact hK | (simp only [hl,k2,c3,CL] at hK; exact hK)
theorem zcem (p1 : ac) (p2 : (List Int)) (r : Bool) (h : qd p1 p2 = some r) (lk : Bool) (d : Option Nat) (K : ap) (fr : TF) (tk : TK) (τ : TH) (hl : τ.lock ≤ τ.next) : fj G lk qp [.agg [.str p1.ID,.sl (List.map af.tv p1.Parties),.sl (List.map aa.tv p1.Arcs),.sl (List.map (TV.int .i64) p1.Leaders),.sl (List.map TV.str p1.Locks),.int .i64 p1.Start,.int .i64 p1.Delta],.sl (List.map (TV.int .i64) p2)] d K fr tk τ = K (eo fr d (.bool r)) tk τ :=
 av (zcen p1 p2 r h τ  hl) (zcen p1 p2 r h (τ.locked τ.next)  (Nat.le_refl _) ) (by simp only [TT,Ic.t,ci,reduceEqDiff,reduceIte,reduceAdd,reduceLT,reduceCtorEq,reduceToNat,hl,CL,LTN])
def qf (p1 : aa) (p2 : Int) : Option Bool :=
 some (decide (p1.To = p2))
theorem zcid (p1 : aa) (p2 : Int) (r : Bool) (h : qf p1 p2 = some r) (τ : TH) (o0 : Nat) (hl : τ.lock ≤ τ.next) (ha0 : τ.at o0 = some ⟨dq,[.int .i64 p2]⟩) (hi0 : o0 < τ.next) : Ru G io [.agg [.int .i64 p1.From,.int .i64 p1.To,.int .i64 p1.Ledger,.str p1.Asset,.int .i64 p1.Amount],.ptr o0 0] τ (.bool r) τ := by
 refine kb fun K hK => ?_
 rw [cb zcsh (Nat.le_of_ble_eq_true rfl)]
 unfold qf at h
 injection h with h; subst h
 simp only [zcsr,TT,Ic.t,ci,reduceEqDiff,reduceIte,reduceAdd,reduceLT,reduceCtorEq,reduceToNat,hl,ha0,hi0,CL,LTN]
 exact hK
theorem zctk (p1 : aa) (p2 : Int) (r : Bool) (h : qf p1 p2 = some r) (lk : Bool) (d : Option Nat) (K : ap) (fr : TF) (tk : TK) (τ : TH) (o0 : Nat) (hl : τ.lock ≤ τ.next) (ha0 : τ.at o0 = some ⟨dq,[.int .i64 p2]⟩) (hi0 : o0 < τ.next) : fj G lk io [.agg [.int .i64 p1.From,.int .i64 p1.To,.int .i64 p1.Ledger,.str p1.Asset,.int .i64 p1.Amount],.ptr o0 0] d K fr tk τ = K (eo fr d (.bool r)) tk τ :=
 av (zcid p1 p2 r h τ o0 hl ha0 hi0) (zcid p1 p2 r h (τ.locked τ.next) o0 (Nat.le_refl _) (by rw [za4o]; exact ha0) hi0) (by simp only [TT,Ic.t,ci,reduceEqDiff,reduceIte,reduceAdd,reduceLT,reduceCtorEq,reduceToNat,hl,ha0,hi0,CL,LTN])
def dt (v0 : Int) (v2 : (List aa)) (v3 : Int) (v1 : (List Int)) (v4 : Int) : Option (LS ((List Int) × Int) ((List Int))) :=
 if v4 < v3 then
  ixL v2 v4 >>= fun y2 =>
  qf (⟨y2.From,y2.To,y2.Ledger,y2.Asset,y2.Amount⟩ : aa) v0 >>= fun y4 =>
  if y4 = true then
   if (v1.length + 1) * 8 ≤ 140737488355328 then
    some (.nx ((v1 ++ [v4]),(IntKind.i64.wrap (v4 + (1 : Int)))))
   else
    none
  else
  some (.nx (v1,(IntKind.i64.wrap (v4 + (1 : Int)))))
 else
 some (.dn v1)
def ip (v0 : Int) (v2 : (List aa)) (v3 : Int) (v1 : (List Int)) (v4 : Int) : Option ((List Int)) := qc (fun st => dt v0 v2 v3 st.1 st.2) (v1,v4)
theorem zciy (v0 : Int) (v2 : (List aa)) (v3 : Int) (v1 : (List Int)) (v4 : Int) : ip v0 v2 v3 v1 v4 = dt v0 v2 v3 v1 v4 >>= LS.go (fun st => ip v0 v2 v3 st.1 st.2) := ij (fun st => dt v0 v2 v3 st.1 st.2) (v1,v4)
def me (v0 : Int) (v2 : (List aa)) (v3 : Int) (v1 : (List Int)) (v4 : Int) (r : (List Int)) : Prop := ∀ (τ : TH) (o0 : Nat) (n0 : Nat) (ty0 : TypeId) (hnn0 : n0 = v1.length) (hty0 : n0 = 0 ∨ ty0 = dq) (hl : τ.lock ≤ τ.next) (ha0 : τ.at o0 = some ⟨dq,[.int .i64 v0]⟩) (hi0 : o0 < τ.next) (Q : TEx → ap) (hQ0 : ∀ (fr : TF) (tk2 : TK) (τ2 : TH),∀ (u0 : TypeId),(r.length = 0 ∨ u0 = dq) → lkp fr 5 = .sla 0 (List.map (TV.int .i64) r) → tk2.take 1 = [some (r.length,u0)] → τ2.cut τ.next = τ → Q (.exit 0) fr tk2 τ2) ,tW G (.loop [1,5,12,13,14] ie) Q [(1,.func io [] [.ptr o0 0]),(5,.sla 0 (List.map (TV.int .i64) v1)),(12,.sl (List.map aa.tv v2)),(13,.int .i64 v3),(14,.int .i64 v4)] [some (n0,ty0)] τ
theorem zct0 (v0 : Int) (v2 : (List aa)) (v3 : Int) (v1 : (List Int)) (v4 : Int) (r : (List Int)) (h : ip v0 v2 v3 v1 v4 = some r) : me v0 v2 v3 v1 v4 r := by
 refine fi (f := fun st => dt v0 v2 v3 st.1 st.2) (P := fun st r => ∀ (v1 : (List Int)) (v4 : Int),(v1,v4) = st → me v0 v2 v3 v1 v4 r) ?_ h v1 v4 rfl
 clear h r v4 v1
 intro st o h r ih v1 v4 hst τ o0  n0 ty0 hnn0 hty0 hl ha0 hi0 Q hQ0
 subst hst
 have h : dt v0 v2 v3 v1 v4 = some o := h
 unfold dt at h
 subst hnn0
 refine nk fun LQ hn hr he => ?_
 by_cases c1 : v4 < v3
 · rw [if_pos c1] at h
   obtain ⟨y2,hy2,h⟩ := ob h
   have f3 := bv hy2
   have f3a := (f3.2.2 aa.tv).1
   have f3b := (f3.2.2 aa.tv).2
   try simp only [CL,MC,reduceToNat] at f3 f3a f3b
   obtain ⟨y4,hy4,h⟩ := ob h
   have k5 := zctk (⟨y2.From,y2.To,y2.Ledger,y2.Asset,y2.Amount⟩ : aa) v0 _ hy4
   try simp only [CL,MC,reduceToNat] at k5
   by_cases c6 : y4 = true
   · rw [if_pos c6] at h
     obtain ⟨c7,h⟩ := ifS h
     have f8 : 1 ≤ maxLen := by unfold maxLen; omega
     have f9 : v1.length + 1 ≤ maxLen := by unfold maxLen; omega
     have f10 : ((List.map (TV.int .i64) v1).all fun e => e.cells.length == 1) = true := zbd2 (fun _ => rfl) _
     have f11 : List.map (TV.int .i64) v1 ++ List.map (TV.int .i64) [v4] = List.map (TV.int .i64) (v1 ++ [v4]) := zbm1 _ _
     try simp only [CL,List.map_cons,List.map_nil] at f11
     injection h with h; subst h
     have ih := ih (v1 ++ [v4]) (IntKind.i64.wrap (v4 + (1 : Int))) rfl
     unfold me at ih
     simp only [ie,gi,TT,Ic.t,ci,reduceEqDiff,reduceIte,reduceAdd,reduceMul,reduceLT,reduceLeDiff,reduceSub,reduceCtorEq,reduceEq,reduceNe,reduceToNat,Int.reduceLT,reduceLE,reduceNeg,hl,ha0,hi0,hty0,c1,f3.1,f3.2.1,f3a,f3b,k5,c6,c7,f8,f9,f10,f11,CL,LTN]
     rw [hn]
     simp only [TT,Ic.t,ci,reduceEqDiff,reduceIte,reduceAdd,reduceMul,reduceLT,reduceLeDiff,reduceSub,reduceCtorEq,reduceEq,reduceNe,reduceToNat,Int.reduceLT,reduceLE,reduceNeg,hl,ha0,hi0,hty0,c1,f3.1,f3.2.1,f3a,f3b,k5,c6,c7,f8,f9,f10,f11,CL,LTN]
     exact ih  τ o0  (v1.length + 1) dq (by first | rfl | simp [aq]) (by first | exact hty0 | exact Or.inr rfl | assumption | simp) (by first | assumption | (simp only [ag,ah]; assumption)) (by simp only [TT,Ic.t,ci,reduceEqDiff,reduceIte,reduceAdd,reduceMul,reduceLT,reduceLeDiff,reduceSub,reduceCtorEq,reduceEq,reduceNe,reduceToNat,Int.reduceLT,reduceLE,reduceNeg,hl,ha0,hi0,hty0,c1,f3.1,f3.2.1,f3a,f3b,k5,c6,c7,f8,f9,f10,f11,CL,LTN]) (by first | assumption | (simp only [ag,ah]; assumption)) Q hQ0
   rw [if_neg c6] at h
   have c6 := Bool.eq_false_iff.2 c6
   injection h with h; subst h
   have ih := ih v1 (IntKind.i64.wrap (v4 + (1 : Int))) rfl
   unfold me at ih
   simp only [ie,gi,TT,Ic.t,ci,reduceEqDiff,reduceIte,reduceAdd,reduceMul,reduceLT,reduceLeDiff,reduceSub,reduceCtorEq,reduceEq,reduceNe,reduceToNat,Int.reduceLT,reduceLE,reduceNeg,hl,ha0,hi0,hty0,c1,f3.1,f3.2.1,f3a,f3b,k5,c6,CL,LTN]
   rw [hn]
   simp only [TT,Ic.t,ci,reduceEqDiff,reduceIte,reduceAdd,reduceMul,reduceLT,reduceLeDiff,reduceSub,reduceCtorEq,reduceEq,reduceNe,reduceToNat,Int.reduceLT,reduceLE,reduceNeg,hl,ha0,hi0,hty0,c1,f3.1,f3.2.1,f3a,f3b,k5,c6,CL,LTN]
   exact ih  τ o0  _ ty0 (by first | rfl | simp [aq]) (by first | exact hty0 | exact Or.inr rfl | assumption | simp) (by first | assumption | (simp only [ag,ah]; assumption)) (by simp only [TT,Ic.t,ci,reduceEqDiff,reduceIte,reduceAdd,reduceMul,reduceLT,reduceLeDiff,reduceSub,reduceCtorEq,reduceEq,reduceNe,reduceToNat,Int.reduceLT,reduceLE,reduceNeg,hl,ha0,hi0,hty0,c1,f3.1,f3.2.1,f3a,f3b,k5,c6,CL,LTN]) (by first | assumption | (simp only [ag,ah]; assumption)) Q hQ0
 rw [if_neg c1] at h
 injection h with h; subst h
 obtain rfl : _ = r := ih
 simp only [ie,gi,TT,Ic.t,ci,reduceEqDiff,reduceIte,reduceAdd,reduceMul,reduceLT,reduceLeDiff,reduceSub,reduceCtorEq,reduceEq,reduceNe,reduceToNat,Int.reduceLT,reduceLE,reduceNeg,hl,ha0,hi0,hty0,he,hr,c1,CL,LTN]
 exact hQ0  _ _ _ ty0 (by first | exact hty0 | exact Or.inr rfl | assumption | simp) (by first | rfl | (simp only [TT,Ic.t,ci,reduceEqDiff,reduceIte,reduceAdd,reduceMul,reduceLT,reduceLeDiff,reduceSub,reduceCtorEq,reduceEq,reduceNe,reduceToNat,Int.reduceLT,reduceLE,reduceNeg,hl,ha0,hi0,hty0,c1,CL,LTN])) (by first | rfl | (simp only [TT,Ic.t,ci,reduceEqDiff,reduceIte,reduceAdd,reduceMul,reduceLT,reduceLeDiff,reduceSub,reduceCtorEq,reduceEq,reduceNe,reduceToNat,Int.reduceLT,reduceLE,reduceNeg,hl,ha0,hi0,hty0,c1,CL,LTN])) (by first | exact jd (Nat.le_refl _) | (simp only [TT,Ic.t,ci,reduceEqDiff,reduceIte,reduceAdd,reduceMul,reduceLT,reduceLeDiff,reduceSub,reduceCtorEq,reduceEq,reduceNe,reduceToNat,Int.reduceLT,reduceLE,reduceNeg,hl,ha0,hi0,hty0,c1,CL,LTN]))
end
end Go.Proofs.Ytdcfoaafkppojaa
