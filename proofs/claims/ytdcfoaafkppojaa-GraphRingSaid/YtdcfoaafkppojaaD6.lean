import Derived.Test.YtdcfoaafkppojaaM23
set_option linter.unusedVariables false
set_option linter.unusedSimpArgs false
set_option linter.unusedSectionVars false
open Nat (reduceEqDiff reduceAdd reduceMul reduceLT reduceLeDiff reduceSub)
open Int (reduceToNat reduceNe reduceEq reduceNeg reduceLE)
namespace Go.Proofs.Ytdcfoaafkppojaa
open Go Go.RowKit Sh Ic
noncomputable section
def qx (p1 : ac) (p2 : Int) (p3 : Bool) : Option (List Bool) := reF p1 p2 p3 fun v => ov v
theorem zcff (p1 : ac) (p2 : Int) (p3 : Bool) (r : (List Bool)) (h : qx p1 p2 p3 = some r) (τ : TH) (hl : τ.lock ≤ τ.next) : Ru G il [.agg [.str p1.ID,.sl (List.map af.tv p1.Parties),.sl (List.map aa.tv p1.Arcs),.sl (List.map (TV.int .i64) p1.Leaders),.sl (List.map TV.str p1.Locks),.int .i64 p1.Start,.int .i64 p1.Delta],.int .i64 p2,.bool p3,.func g8 [] []] τ (.sl (List.map TV.bool r)) τ :=
 zcke τ hl p1 p2 p3 g8 [] _ ⟨fun n hn => ⟨by first | rfl | (simp [fp,TV.under]; omega),by first | rfl | (simp [ltL,TV.lt]; omega)⟩,fun v r hv lk d K fr tk τ2 h1 h2 h3 => zcrp v  r hv lk d K fr tk τ2  (by rw [h1]; exact Nat.le_trans hl h2) ⟩ r h
theorem zcfe (p1 : ac) (p2 : Int) (p3 : Bool) (r : (List Bool)) (h : qx p1 p2 p3 = some r) (lk : Bool) (d : Option Nat) (K : aq) (fr : TF) (tk : TK) (τ : TH) (hl : τ.lock ≤ τ.next) : fi G lk il [.agg [.str p1.ID,.sl (List.map af.tv p1.Parties),.sl (List.map aa.tv p1.Arcs),.sl (List.map (TV.int .i64) p1.Leaders),.sl (List.map TV.str p1.Locks),.int .i64 p1.Start,.int .i64 p1.Delta],.int .i64 p2,.bool p3,.func g8 [] []] d K fr tk τ = K (ew fr d (.sl (List.map TV.bool r))) tk τ :=
 aw (zcff p1 p2 p3 r h τ  hl) (zcff p1 p2 p3 r h (τ.locked τ.next)  (Nat.le_refl _) ) (by simp only [TT,Ic.t,ci,reduceEqDiff,reduceIte,reduceAdd,reduceLT,reduceCtorEq,reduceToNat,hl,CL,LTN])
def ba (v0 : (List Bool)) (v1 : Bool) (v2 : Int) (v3 : Int) : Option (LS (Int) (LX (Unit) (Int))) :=
 if v3 < v2 then
  ixL v0 v3 >>= fun y2 =>
  if (v1 == y2) = true then
   some (.dn (.rt v3))
  else
  some (.nx (IntKind.i64.wrap (v3 + (1 : Int))))
 else
 some (.dn (.ex ()))
def dm (v0 : (List Bool)) (v1 : Bool) (v2 : Int) (v3 : Int) : Option (LX (Unit) (Int)) := qb (fun st => ba v0 v1 v2 st) v3
theorem nw (v0 : (List Bool)) (v1 : Bool) (v2 : Int) (v3 : Int) : dm v0 v1 v2 v3 = ba v0 v1 v2 v3 >>= LS.go (fun st => dm v0 v1 v2 st) := ig (fun st => ba v0 v1 v2 st) v3
def gc (v0 : (List Bool)) (v1 : Bool) (v2 : Int) (v3 : Int) (r : LX (Unit) (Int)) : Prop := ∀ (τ : TH) (hl : τ.lock ≤ τ.next) (Q : TEx → aq) (hQ0 : ∀ v : Unit,r = (.ex v) → ∀ (fr : TF) (tk2 : TK) (τ2 : TH),tk2.take 0 = [] → τ2.cut τ.next = τ → Q (.exit 0) fr tk2 τ2) (hQ1 : ∀ v : Int,r = (.rt v) → ∀ (tk2 : TK) (τ2 : TH),τ2.cut τ.next = τ → Q .ret [(4,.int .i64 v)] tk2 τ2) ,tW G (.loop [0,1,7,8] fg) Q [(0,.sl (List.map TV.bool v0)),(1,.bool v1),(7,.int .i64 v2),(8,.int .i64 v3)] [] τ
theorem yb (v0 : (List Bool)) (v1 : Bool) (v2 : Int) (v3 : Int) (r : LX (Unit) (Int)) (h : dm v0 v1 v2 v3 = some r) : gc v0 v1 v2 v3 r := by
 refine fh (f := fun st => ba v0 v1 v2 st) (P := fun st r => ∀ (v3 : Int),v3 = st → gc v0 v1 v2 v3 r) ?_ h v3 rfl
 clear h r v3
 intro st o h r ih v3 hst τ  hl Q hQ0 hQ1
 subst hst
 have h : ba v0 v1 v2 v3 = some o := h
 unfold ba at h
 refine nv fun LQ hn hr he => ?_
 by_cases c1 : v3 < v2
 · rw [if_pos c1] at h
   obtain ⟨y2,hy2,h⟩ := ob h
   have f3 := bx hy2
   have f3a := (f3.2.2 TV.bool).1
   have f3b := (f3.2.2 TV.bool).2
   try simp only [CL,MC,reduceToNat] at f3 f3a f3b
   by_cases c4 : (v1 == y2) = true
   · rw [if_pos c4] at h
     injection h with h; subst h
     obtain rfl : _ = r := ih
     simp only [fg,eg,TT,Ic.t,ci,reduceEqDiff,reduceIte,reduceAdd,reduceLT,reduceCtorEq,reduceToNat,hl,he,hr,c1,f3.1,f3.2.1,f3a,f3b,c4,CL,LTN]
     exact hQ1 v3 rfl  _ _  (by first | exact jf (Nat.le_refl _) | (simp only [TT,Ic.t,ci,reduceEqDiff,reduceIte,reduceAdd,reduceLT,reduceCtorEq,reduceToNat,hl,c1,f3.1,f3.2.1,f3a,f3b,c4,CL,LTN]))
   rw [if_neg c4] at h
   have c4 := Bool.eq_false_iff.2 c4
   injection h with h; subst h
   have ih := ih (IntKind.i64.wrap (v3 + (1 : Int))) rfl
   unfold gc at ih
   simp only [fg,eg,TT,Ic.t,ci,reduceEqDiff,reduceIte,reduceAdd,reduceLT,reduceCtorEq,reduceToNat,hl,c1,f3.1,f3.2.1,f3a,f3b,c4,CL,LTN]
   rw [hn]
   simp only [TT,Ic.t,ci,reduceEqDiff,reduceIte,reduceAdd,reduceLT,reduceCtorEq,reduceToNat,hl,c1,f3.1,f3.2.1,f3a,f3b,c4,CL,LTN]
   exact ih  τ    (by first | assumption | (simp only [ag,ah]; assumption)) Q hQ0 hQ1
 rw [if_neg c1] at h
 injection h with h; subst h
 obtain rfl : _ = r := ih
 simp only [fg,eg,TT,Ic.t,ci,reduceEqDiff,reduceIte,reduceAdd,reduceLT,reduceCtorEq,reduceToNat,hl,he,hr,c1,CL,LTN]
 exact hQ0 () rfl  _ _ _   (by first | rfl | (simp only [TT,Ic.t,ci,reduceEqDiff,reduceIte,reduceAdd,reduceLT,reduceCtorEq,reduceToNat,hl,c1,CL,LTN])) (by first | exact jf (Nat.le_refl _) | (simp only [TT,Ic.t,ci,reduceEqDiff,reduceIte,reduceAdd,reduceLT,reduceCtorEq,reduceToNat,hl,c1,CL,LTN]))
def gq (p1 : (List Bool)) (p2 : Bool) : Option Int :=
 dm p1 p2 ((p1.length : Nat) : Int) (0 : Int) >>= fun y1 =>
 match y1 with
 | .ex w2 =>
  some (-1 : Int)
 | .rt w4 =>
  some w4
theorem rh (p1 : (List Bool)) (p2 : Bool) (r : Int) (h : gq p1 p2 = some r) (τ : TH) (hl : τ.lock ≤ τ.next) : Ru G eh [.sl (List.map TV.bool p1),.bool p2] τ (.int .i64 r) τ := by
 refine li fun K hK => ?_
 rw [ce zcss (Nat.le_of_ble_eq_true rfl)]
 unfold gq at h
 obtain ⟨y1,hy1,h⟩ := ob h
 simp only [eg,TT,Ic.t,ci,reduceEqDiff,reduceIte,reduceAdd,reduceLT,reduceCtorEq,reduceToNat,hl,CL,LTN]
 have Sy1 := yb p1 p2 ((p1.length : Nat) : Int) (0 : Int) y1 hy1
 unfold gc at Sy1
 refine Sy1 _ (by first | assumption | omega | (simp only [ag,am,ah,az]; omega)) _ ?_ ?_
 · intro w2 e frq3 tkq3 τq3 htq3 hcq3
   subst e
   simp only at h
   have hcq3 := eq (n := τ.next) hcq3 (by first | omega | (simp only [ag,am]; omega))
   try simp only [List.take_succ_cons,List.take_zero,List.take_nil,CL] at htq3
   try simp only [TT,Ic.t,ci,reduceEqDiff,reduceIte,reduceAdd,reduceLT,reduceCtorEq,reduceToNat,hl,CL,LTN] at hcq3
   injection h with h; subst h
   simp only [eg,TT,Ic.t,ci,reduceEqDiff,reduceIte,reduceAdd,reduceLT,reduceCtorEq,reduceToNat,hl,htq3,hcq3,CL,LTN]
   exact hK
 intro w4 e tkq5 τq5 hcq5
 subst e
 simp only at h
 have hcq5 := eq (n := τ.next) hcq5 (by first | omega | (simp only [ag,am]; omega))
 try simp only [TT,Ic.t,ci,reduceEqDiff,reduceIte,reduceAdd,reduceLT,reduceCtorEq,reduceToNat,hl,CL,LTN] at hcq5
 injection h with h; subst h
 simp only [eg,TT,Ic.t,ci,reduceEqDiff,reduceIte,reduceAdd,reduceLT,reduceCtorEq,reduceToNat,hl,hcq5,CL,LTN]
 exact hK
theorem zcs1 (p1 : (List Bool)) (p2 : Bool) (r : Int) (h : gq p1 p2 = some r) (lk : Bool) (d : Option Nat) (K : aq) (fr : TF) (tk : TK) (τ : TH) (hl : τ.lock ≤ τ.next) : fi G lk eh [.sl (List.map TV.bool p1),.bool p2] d K fr tk τ = K (ew fr d (.int .i64 r)) tk τ :=
 aw (rh p1 p2 r h τ  hl) (rh p1 p2 r h (τ.locked τ.next)  (Nat.le_refl _) ) (by simp only [TT,Ic.t,ci,reduceEqDiff,reduceIte,reduceAdd,reduceLT,reduceCtorEq,reduceToNat,hl,CL,LTN])
def ch (p1 : (List Bool)) (p2 : Bool) : Option Bool :=
 gq p1 p2 >>= fun y1 =>
 some (decide ((0 : Int) ≤ y1))
theorem oh (p1 : (List Bool)) (p2 : Bool) (r : Bool) (h : ch p1 p2 = some r) (τ : TH) (hl : τ.lock ≤ τ.next) : Ru G cn [.sl (List.map TV.bool p1),.bool p2] τ (.bool r) τ := by
 refine li fun K hK => ?_
 rw [ce z7 (Nat.le_of_ble_eq_true rfl)]
 unfold ch at h
 obtain ⟨y1,hy1,h⟩ := ob h
 have k2 := zcs1 p1 p2 _ hy1
 try simp only [CL,MC,reduceToNat] at k2
 injection h with h; subst h
 simp only [zcs2,TT,Ic.t,ci,reduceEqDiff,reduceIte,reduceAdd,reduceLT,reduceCtorEq,reduceToNat,hl,k2,CL,LTN]
 exact hK
theorem oi (p1 : (List Bool)) (p2 : Bool) (r : Bool) (h : ch p1 p2 = some r) (lk : Bool) (d : Option Nat) (K : aq) (fr : TF) (tk : TK) (τ : TH) (hl : τ.lock ≤ τ.next) : fi G lk cn [.sl (List.map TV.bool p1),.bool p2] d K fr tk τ = K (ew fr d (.bool r)) tk τ :=
 aw (oh p1 p2 r h τ  hl) (oh p1 p2 r h (τ.locked τ.next)  (Nat.le_refl _) ) (by simp only [TT,Ic.t,ci,reduceEqDiff,reduceIte,reduceAdd,reduceLT,reduceCtorEq,reduceToNat,hl,CL,LTN])
def my (p1 : ac) : Option Bool :=
 kl p1 >>= fun y1 =>
 if y1 = true then
  qx p1 (0 : Int) false >>= fun y4 =>
  ch y4 false >>= fun y6 =>
  if y6 = true then
   some false
  else
  qx p1 (0 : Int) true >>= fun y9 =>
  ch y9 false >>= fun y11 =>
  some (!y11)
 else
 some false
theorem zcf0 (p1 : ac) (r : Bool) (h : my p1 = some r) (τ : TH) (hl : τ.lock ≤ τ.next) : Ru G m6 [.agg [.str p1.ID,.sl (List.map af.tv p1.Parties),.sl (List.map aa.tv p1.Arcs),.sl (List.map (TV.int .i64) p1.Leaders),.sl (List.map TV.str p1.Locks),.int .i64 p1.Start,.int .i64 p1.Delta]] τ (.bool r) τ := by
 refine li fun K hK => ?_
 rw [ce zcqu (Nat.le_of_ble_eq_true rfl)]
 unfold my at h
 obtain ⟨y1,hy1,h⟩ := ob h
 have k2 := sj p1 _ hy1
 try simp only [CL,MC,reduceToNat] at k2
 by_cases c3 : y1 = true
 · rw [if_pos c3] at h
   obtain ⟨y4,hy4,h⟩ := ob h
   have k5 := zcfe p1 (0 : Int) false _ hy4
   try simp only [CL,MC,reduceToNat] at k5
   obtain ⟨y6,hy6,h⟩ := ob h
   have k7 := oi y4 false _ hy6
   try simp only [CL,MC,reduceToNat] at k7
   by_cases c8 : y6 = true
   · rw [if_pos c8] at h
     injection h with h; subst h
     simp only [zb1o,TT,Ic.t,ci,reduceEqDiff,reduceIte,reduceAdd,reduceLT,reduceCtorEq,reduceToNat,hl,k2,c3,k5,k7,c8,CL,LTN]
     first | exact hK | (simp only [hl,k2,c3,k5,k7,c8,CL] at hK; exact hK)
   rw [if_neg c8] at h
   have c8 := Bool.eq_false_iff.2 c8
   obtain ⟨y9,hy9,h⟩ := ob h
   have k10 := zcfe p1 (0 : Int) true _ hy9
   try simp only [CL,MC,reduceToNat] at k10
   obtain ⟨y11,hy11,h⟩ := ob h
   have k12 := oi y9 false _ hy11
   try simp only [CL,MC,reduceToNat] at k12
   injection h with h; subst h
   simp only [zb1o,TT,Ic.t,ci,reduceEqDiff,reduceIte,reduceAdd,reduceLT,reduceCtorEq,reduceToNat,hl,k2,c3,k5,k7,c8,k10,k12,CL,LTN]
   first | exact hK | (simp only [hl,k2,c3,k5,k7,c8,k10,k12,CL] at hK; exact hK)
 rw [if_neg c3] at h
 have c3 := Bool.eq_false_iff.2 c3
 injection h with h; subst h
 simp only [zb1o,TT,Ic.t,ci,reduceEqDiff,reduceIte,reduceAdd,reduceLT,reduceCtorEq,reduceToNat,hl,k2,c3,CL,LTN]
 first | exact hK | (simp only [hl,k2,c3,CL] at hK; exact hK)
theorem zcfz (p1 : ac) (r : Bool) (h : my p1 = some r) (lk : Bool) (d : Option Nat) (K : aq) (fr : TF) (tk : TK) (τ : TH) (hl : τ.lock ≤ τ.next) : fi G lk m6 [.agg [.str p1.ID,.sl (List.map af.tv p1.Parties),.sl (List.map aa.tv p1.Arcs),.sl (List.map (TV.int .i64) p1.Leaders),.sl (List.map TV.str p1.Locks),.int .i64 p1.Start,.int .i64 p1.Delta]] d K fr tk τ = K (ew fr d (.bool r)) tk τ :=
 aw (zcf0 p1 r h τ  hl) (zcf0 p1 r h (τ.locked τ.next)  (Nat.le_refl _) ) (by simp only [TT,Ic.t,ci,reduceEqDiff,reduceIte,reduceAdd,reduceLT,reduceCtorEq,reduceToNat,hl,CL,LTN])
def d8 (p1 : Int) (p2 : ac) : Option Bool :=
 dg p2.Leaders p1 >>= fun y1 =>
 some (!y1)
theorem yp (p1 : Int) (p2 : ac) (r : Bool) (h : d8 p1 p2 = some r) (τ : TH) (o0 : Nat) (hl : τ.lock ≤ τ.next) (ha0 : τ.at o0 = some ⟨a9,[.str p2.ID,.sl (List.map af.tv p2.Parties),.sl (List.map aa.tv p2.Arcs),.sl (List.map (TV.int .i64) p2.Leaders),.sl (List.map TV.str p2.Locks),.int .i64 p2.Start,.int .i64 p2.Delta]⟩) (hi0 : o0 < τ.next) : Ru G du [.int .i64 p1,.ptr o0 0] τ (.bool r) τ := by
 refine li fun K hK => ?_
 rw [ce zcsg (Nat.le_of_ble_eq_true rfl)]
 unfold d8 at h
 obtain ⟨y1,hy1,h⟩ := ob h
 have k2 := py p2.Leaders p1 _ hy1
 try simp only [CL,MC,reduceToNat] at k2
 injection h with h; subst h
 simp only [zcr7,TT,Ic.t,ci,reduceEqDiff,reduceIte,reduceAdd,reduceLT,reduceCtorEq,reduceToNat,hl,ha0,hi0,k2,CL,LTN]
 exact hK
theorem yq (p1 : Int) (p2 : ac) (r : Bool) (h : d8 p1 p2 = some r) (lk : Bool) (d : Option Nat) (K : aq) (fr : TF) (tk : TK) (τ : TH) (o0 : Nat) (hl : τ.lock ≤ τ.next) (ha0 : τ.at o0 = some ⟨a9,[.str p2.ID,.sl (List.map af.tv p2.Parties),.sl (List.map aa.tv p2.Arcs),.sl (List.map (TV.int .i64) p2.Leaders),.sl (List.map TV.str p2.Locks),.int .i64 p2.Start,.int .i64 p2.Delta]⟩) (hi0 : o0 < τ.next) : fi G lk du [.int .i64 p1,.ptr o0 0] d K fr tk τ = K (ew fr d (.bool r)) tk τ :=
 aw (yp p1 p2 r h τ o0 hl ha0 hi0) (yp p1 p2 r h (τ.locked τ.next) o0 (Nat.le_refl _) (by rw [zaqi]; exact ha0) hi0) (by simp only [TT,Ic.t,ci,reduceEqDiff,reduceIte,reduceAdd,reduceLT,reduceCtorEq,reduceToNat,hl,ha0,hi0,CL,LTN])
def sr (p1 : ac) (p2 : Int) (p3 : Bool) (p4 : ac) : Option (List Bool) := reF p1 p2 p3 fun v => d8 v p4
theorem zcf2 (p1 : ac) (p2 : Int) (p3 : Bool) (p4 : ac) (r : (List Bool)) (h : sr p1 p2 p3 p4 = some r) (τ : TH) (o0 : Nat) (hl : τ.lock ≤ τ.next) (ha0 : τ.at o0 = some ⟨a9,[.str p4.ID,.sl (List.map af.tv p4.Parties),.sl (List.map aa.tv p4.Arcs),.sl (List.map (TV.int .i64) p4.Leaders),.sl (List.map TV.str p4.Locks),.int .i64 p4.Start,.int .i64 p4.Delta]⟩) (hi0 : o0 < τ.next) : Ru G il [.agg [.str p1.ID,.sl (List.map af.tv p1.Parties),.sl (List.map aa.tv p1.Arcs),.sl (List.map (TV.int .i64) p1.Leaders),.sl (List.map TV.str p1.Locks),.int .i64 p1.Start,.int .i64 p1.Delta],.int .i64 p2,.bool p3,.func du [] [.ptr o0 0]] τ (.sl (List.map TV.bool r)) τ :=
 zcke τ hl p1 p2 p3 du [.ptr o0 0] _ ⟨fun n hn => ⟨by first | rfl | (simp [fp,TV.under]; omega),by first | rfl | (simp [ltL,TV.lt]; omega)⟩,fun v r hv lk d K fr tk τ2 h1 h2 h3 => yq v p4 r hv lk d K fr tk τ2 o0 (by rw [h1]; exact Nat.le_trans hl h2) (by rw [← zbt2 hi0,h3]; exact ha0) (Nat.lt_of_lt_of_le hi0 h2)⟩ r h
theorem zcrq (p1 : ac) (p2 : Int) (p3 : Bool) (p4 : ac) (r : (List Bool)) (h : sr p1 p2 p3 p4 = some r) (lk : Bool) (d : Option Nat) (K : aq) (fr : TF) (tk : TK) (τ : TH) (o0 : Nat) (hl : τ.lock ≤ τ.next) (ha0 : τ.at o0 = some ⟨a9,[.str p4.ID,.sl (List.map af.tv p4.Parties),.sl (List.map aa.tv p4.Arcs),.sl (List.map (TV.int .i64) p4.Leaders),.sl (List.map TV.str p4.Locks),.int .i64 p4.Start,.int .i64 p4.Delta]⟩) (hi0 : o0 < τ.next) : fi G lk il [.agg [.str p1.ID,.sl (List.map af.tv p1.Parties),.sl (List.map aa.tv p1.Arcs),.sl (List.map (TV.int .i64) p1.Leaders),.sl (List.map TV.str p1.Locks),.int .i64 p1.Start,.int .i64 p1.Delta],.int .i64 p2,.bool p3,.func du [] [.ptr o0 0]] d K fr tk τ = K (ew fr d (.sl (List.map TV.bool r))) tk τ :=
 aw (zcf2 p1 p2 p3 p4 r h τ o0 hl ha0 hi0) (zcf2 p1 p2 p3 p4 r h (τ.locked τ.next) o0 (Nat.le_refl _) (by rw [zaqi]; exact ha0) hi0) (by simp only [TT,Ic.t,ci,reduceEqDiff,reduceIte,reduceAdd,reduceLT,reduceCtorEq,reduceToNat,hl,ha0,hi0,CL,LTN])
def bz (v0 : ac) (v1 : Int) (v2 : Int) : Option (LS (Int) (LX (Unit) (Bool))) :=
 if v2 < v1 then
  d8 v2 v0 >>= fun y2 =>
  if y2 = true then
   sr v0 v2 false v0 >>= fun y5 =>
   ixL y5 v2 >>= fun y7 =>
   if y7 = true then
    some (.dn (.rt false))
   else
   some (.nx (IntKind.i64.wrap (v2 + (1 : Int))))
  else
  some (.nx (IntKind.i64.wrap (v2 + (1 : Int))))
 else
 some (.dn (.ex ()))
def cj (v0 : ac) (v1 : Int) (v2 : Int) : Option (LX (Unit) (Bool)) := qb (fun st => bz v0 v1 st) v2
theorem o7 (v0 : ac) (v1 : Int) (v2 : Int) : cj v0 v1 v2 = bz v0 v1 v2 >>= LS.go (fun st => cj v0 v1 st) := ig (fun st => bz v0 v1 st) v2
def jt (v0 : ac) (v1 : Int) (v2 : Int) (r : LX (Unit) (Bool)) : Prop := ∀ (τ : TH) (o0 : Nat) (hl : τ.lock ≤ τ.next) (ha0 : τ.at o0 = some ⟨a9,[.str v0.ID,.sl (List.map af.tv v0.Parties),.sl (List.map aa.tv v0.Arcs),.sl (List.map (TV.int .i64) v0.Leaders),.sl (List.map TV.str v0.Locks),.int .i64 v0.Start,.int .i64 v0.Delta]⟩) (hi0 : o0 < τ.next) (Q : TEx → aq) (hQ0 : ∀ v : Unit,r = (.ex v) → ∀ (fr : TF) (tk2 : TK) (τ2 : TH),tk2.take 0 = [] → τ2.cut τ.next = τ → Q (.exit 0) fr tk2 τ2) (hQ1 : ∀ v : Bool,r = (.rt v) → ∀ (tk2 : TK) (τ2 : TH),τ2.cut τ.next = τ → Q .ret [(2,.bool v)] tk2 τ2) ,tW G (.loop [1,3,11,12] jy) Q [(1,.ptr o0 0),(3,.func du [] [.ptr o0 0]),(11,.int .i64 v1),(12,.int .i64 v2)] [] τ
theorem zcsl (v0 : ac) (v1 : Int) (v2 : Int) (r : LX (Unit) (Bool)) (h : cj v0 v1 v2 = some r) : jt v0 v1 v2 r := by
 refine fh (f := fun st => bz v0 v1 st) (P := fun st r => ∀ (v2 : Int),v2 = st → jt v0 v1 v2 r) ?_ h v2 rfl
 clear h r v2
 intro st o h r ih v2 hst τ o0  hl ha0 hi0 Q hQ0 hQ1
 subst hst
 have h : bz v0 v1 v2 = some o := h
 unfold bz at h
 refine nv fun LQ hn hr he => ?_
 by_cases c1 : v2 < v1
 · rw [if_pos c1] at h
   obtain ⟨y2,hy2,h⟩ := ob h
   have k3 := yq v2 v0 _ hy2
   try simp only [CL,MC,reduceToNat] at k3
   by_cases c4 : y2 = true
   · rw [if_pos c4] at h
     obtain ⟨y5,hy5,h⟩ := ob h
     have k6 := zcrq v0 v2 false v0 _ hy5
     try simp only [CL,MC,reduceToNat] at k6
     obtain ⟨y7,hy7,h⟩ := ob h
     have f8 := bx hy7
     have f8a := (f8.2.2 TV.bool).1
     have f8b := (f8.2.2 TV.bool).2
     try simp only [CL,MC,reduceToNat] at f8 f8a f8b
     by_cases c9 : y7 = true
     · rw [if_pos c9] at h
       injection h with h; subst h
       obtain rfl : _ = r := ih
       simp only [jy,iu,TT,Ic.t,ci,reduceEqDiff,reduceIte,reduceAdd,reduceLT,reduceCtorEq,reduceToNat,hl,ha0,hi0,he,hr,c1,k3,c4,k6,f8.1,f8.2.1,f8a,f8b,c9,CL,LTN]
       exact hQ1 false rfl  _ _  (by first | exact jf (Nat.le_refl _) | (simp only [TT,Ic.t,ci,reduceEqDiff,reduceIte,reduceAdd,reduceLT,reduceCtorEq,reduceToNat,hl,ha0,hi0,c1,k3,c4,k6,f8.1,f8.2.1,f8a,f8b,c9,CL,LTN]))
     rw [if_neg c9] at h
     have c9 := Bool.eq_false_iff.2 c9
     injection h with h; subst h
     have ih := ih (IntKind.i64.wrap (v2 + (1 : Int))) rfl
     unfold jt at ih
     simp only [jy,iu,TT,Ic.t,ci,reduceEqDiff,reduceIte,reduceAdd,reduceLT,reduceCtorEq,reduceToNat,hl,ha0,hi0,c1,k3,c4,k6,f8.1,f8.2.1,f8a,f8b,c9,CL,LTN]
     rw [hn]
     simp only [TT,Ic.t,ci,reduceEqDiff,reduceIte,reduceAdd,reduceLT,reduceCtorEq,reduceToNat,hl,ha0,hi0,c1,k3,c4,k6,f8.1,f8.2.1,f8a,f8b,c9,CL,LTN]
     exact ih  τ o0   (by first | assumption | (simp only [ag,ah]; assumption)) (by simp only [TT,Ic.t,ci,reduceEqDiff,reduceIte,reduceAdd,reduceLT,reduceCtorEq,reduceToNat,hl,ha0,hi0,c1,k3,c4,k6,f8.1,f8.2.1,f8a,f8b,c9,CL,LTN]) (by first | assumption | (simp only [ag,ah]; assumption)) Q hQ0 hQ1
   rw [if_neg c4] at h
   have c4 := Bool.eq_false_iff.2 c4
   injection h with h; subst h
   have ih := ih (IntKind.i64.wrap (v2 + (1 : Int))) rfl
   unfold jt at ih
   simp only [jy,iu,TT,Ic.t,ci,reduceEqDiff,reduceIte,reduceAdd,reduceLT,reduceCtorEq,reduceToNat,hl,ha0,hi0,c1,k3,c4,CL,LTN]
   rw [hn]
   simp only [TT,Ic.t,ci,reduceEqDiff,reduceIte,reduceAdd,reduceLT,reduceCtorEq,reduceToNat,hl,ha0,hi0,c1,k3,c4,CL,LTN]
   exact ih  τ o0   (by first | assumption | (simp only [ag,ah]; assumption)) (by simp only [TT,Ic.t,ci,reduceEqDiff,reduceIte,reduceAdd,reduceLT,reduceCtorEq,reduceToNat,hl,ha0,hi0,c1,k3,c4,CL,LTN]) (by first | assumption | (simp only [ag,ah]; assumption)) Q hQ0 hQ1
 rw [if_neg c1] at h
 injection h with h; subst h
 obtain rfl : _ = r := ih
 simp only [jy,iu,TT,Ic.t,ci,reduceEqDiff,reduceIte,reduceAdd,reduceLT,reduceCtorEq,reduceToNat,hl,ha0,hi0,he,hr,c1,CL,LTN]
 exact hQ0 () rfl  _ _ _   (by first | rfl | (simp only [TT,Ic.t,ci,reduceEqDiff,reduceIte,reduceAdd,reduceLT,reduceCtorEq,reduceToNat,hl,ha0,hi0,c1,CL,LTN])) (by first | exact jf (Nat.le_refl _) | (simp only [TT,Ic.t,ci,reduceEqDiff,reduceIte,reduceAdd,reduceLT,reduceCtorEq,reduceToNat,hl,ha0,hi0,c1,CL,LTN]))
def j8 (p1 : ac) : Option Bool :=
 kl p1 >>= fun y1 =>
 if y1 = true then
  cj p1 ((p1.Parties.length : Nat) : Int) (0 : Int) >>= fun y4 =>
  match y4 with
  | .ex w5 =>
   some true
  | .rt w7 =>
   some w7
 else
 some false
theorem zchn (p1 : ac) (r : Bool) (h : j8 p1 = some r) (τ : TH) (hl : τ.lock ≤ τ.next) : Ru G kb [.agg [.str p1.ID,.sl (List.map af.tv p1.Parties),.sl (List.map aa.tv p1.Arcs),.sl (List.map (TV.int .i64) p1.Leaders),.sl (List.map TV.str p1.Locks),.int .i64 p1.Start,.int .i64 p1.Delta]] τ (.bool r) τ := by
 refine li fun K hK => ?_
 rw [ce zcrl (Nat.le_of_ble_eq_true rfl)]
 unfold j8 at h
 obtain ⟨y1,hy1,h⟩ := ob h
 have k2 := sj p1 _ hy1
 try simp only [CL,MC,reduceToNat] at k2
 by_cases c3 : y1 = true
 · rw [if_pos c3] at h
   obtain ⟨y4,hy4,h⟩ := ob h
   simp only [iu,TT,Ic.t,ci,reduceEqDiff,reduceIte,reduceAdd,reduceLT,reduceCtorEq,reduceToNat,hl,k2,c3,CL,LTN]
   have Sy4 := zcsl p1 ((p1.Parties.length : Nat) : Int) (0 : Int) y4 hy4
   unfold jt at Sy4
   refine Sy4 _ τ.next (by first | assumption | omega | (simp only [ag,am,ah,az]; omega)) (by simp only [TT,Ic.t,ci,reduceEqDiff,reduceIte,reduceAdd,reduceLT,reduceCtorEq,reduceToNat,hl,k2,c3,CL,LTN]) (by first | assumption | omega | (simp only [ag,am,ah,az]; omega)) _ ?_ ?_
   · intro w5 e frq6 tkq6 τq6 htq6 hcq6
     subst e
     simp only at h
     have hcq6 := eq (n := τ.next + 1) hcq6 (by first | omega | (simp only [ag,am]; omega))
     try simp only [List.take_succ_cons,List.take_zero,List.take_nil,CL] at htq6
     try simp only [TT,Ic.t,ci,reduceEqDiff,reduceIte,reduceAdd,reduceLT,reduceCtorEq,reduceToNat,hl,k2,c3,CL,LTN] at hcq6
     injection h with h; subst h
     simp only [iu,TT,Ic.t,ci,reduceEqDiff,reduceIte,reduceAdd,reduceLT,reduceCtorEq,reduceToNat,hl,k2,c3,htq6,hcq6,CL,LTN]
     first | exact hK | (simp only [hl,k2,c3,htq6,hcq6,CL] at hK; exact hK)
   intro w7 e tkq8 τq8 hcq8
   subst e
   simp only at h
   have hcq8 := eq (n := τ.next) hcq8 (by first | omega | (simp only [ag,am]; omega))
   try simp only [TT,Ic.t,ci,reduceEqDiff,reduceIte,reduceAdd,reduceLT,reduceCtorEq,reduceToNat,hl,k2,c3,CL,LTN] at hcq8
   injection h with h; subst h
   simp only [iu,TT,Ic.t,ci,reduceEqDiff,reduceIte,reduceAdd,reduceLT,reduceCtorEq,reduceToNat,hl,k2,c3,hcq8,CL,LTN]
   first | exact hK | (simp only [hl,k2,c3,hcq8,CL] at hK; exact hK)
 rw [if_neg c3] at h
 have c3 := Bool.eq_false_iff.2 c3
 injection h with h; subst h
 simp only [iu,TT,Ic.t,ci,reduceEqDiff,reduceIte,reduceAdd,reduceLT,reduceCtorEq,reduceToNat,hl,k2,c3,CL,LTN]
 first | exact hK | (simp only [hl,k2,c3,CL] at hK; exact hK)
theorem zchf (p1 : ac) (r : Bool) (h : j8 p1 = some r) (lk : Bool) (d : Option Nat) (K : aq) (fr : TF) (tk : TK) (τ : TH) (hl : τ.lock ≤ τ.next) : fi G lk kb [.agg [.str p1.ID,.sl (List.map af.tv p1.Parties),.sl (List.map aa.tv p1.Arcs),.sl (List.map (TV.int .i64) p1.Leaders),.sl (List.map TV.str p1.Locks),.int .i64 p1.Start,.int .i64 p1.Delta]] d K fr tk τ = K (ew fr d (.bool r)) tk τ :=
 aw (zchn p1 r h τ  hl) (zchn p1 r h (τ.locked τ.next)  (Nat.le_refl _) ) (by simp only [TT,Ic.t,ci,reduceEqDiff,reduceIte,reduceAdd,reduceLT,reduceCtorEq,reduceToNat,hl,CL,LTN])
def n5 (p1 : ac) : Option Bool :=
 my p1 >>= fun y1 =>
 if y1 = true then
  j8 p1 >>= fun y4 =>
  some y4
 else
 some false
theorem zcfd (p1 : ac) (r : Bool) (h : n5 p1 = some r) (τ : TH) (hl : τ.lock ≤ τ.next) : Ru G oa [.agg [.str p1.ID,.sl (List.map af.tv p1.Parties),.sl (List.map aa.tv p1.Arcs),.sl (List.map (TV.int .i64) p1.Leaders),.sl (List.map TV.str p1.Locks),.int .i64 p1.Start,.int .i64 p1.Delta]] τ (.bool r) τ := by
 refine li fun K hK => ?_
 rw [ce zcpu (Nat.le_of_ble_eq_true rfl)]
 unfold n5 at h
 obtain ⟨y1,hy1,h⟩ := ob h
 have k2 := zcfz p1 _ hy1
 try simp only [CL,MC,reduceToNat] at k2
 by_cases c3 : y1 = true
 · rw [if_pos c3] at h
   obtain ⟨y4,hy4,h⟩ := ob h
   have k5 := zchf p1 _ hy4
   try simp only [CL,MC,reduceToNat] at k5
   injection h with h; subst h
   simp only [zcap,TT,Ic.t,ci,reduceEqDiff,reduceIte,reduceAdd,reduceLT,reduceCtorEq,reduceToNat,hl,k2,c3,k5,CL,LTN]
   first | exact hK | (simp only [hl,k2,c3,k5,CL] at hK; exact hK)
 rw [if_neg c3] at h
 have c3 := Bool.eq_false_iff.2 c3
 injection h with h; subst h
 simp only [zcap,TT,Ic.t,ci,reduceEqDiff,reduceIte,reduceAdd,reduceLT,reduceCtorEq,reduceToNat,hl,k2,c3,CL,LTN]
 first | exact hK | (simp only [hl,k2,c3,CL] at hK; exact hK)
theorem zcfc (p1 : ac) (r : Bool) (h : n5 p1 = some r) (lk : Bool) (d : Option Nat) (K : aq) (fr : TF) (tk : TK) (τ : TH) (hl : τ.lock ≤ τ.next) : fi G lk oa [.agg [.str p1.ID,.sl (List.map af.tv p1.Parties),.sl (List.map aa.tv p1.Arcs),.sl (List.map (TV.int .i64) p1.Leaders),.sl (List.map TV.str p1.Locks),.int .i64 p1.Start,.int .i64 p1.Delta]] d K fr tk τ = K (ew fr d (.bool r)) tk τ :=
 aw (zcfd p1 r h τ  hl) (zcfd p1 r h (τ.locked τ.next)  (Nat.le_refl _) ) (by simp only [TT,Ic.t,ci,reduceEqDiff,reduceIte,reduceAdd,reduceLT,reduceCtorEq,reduceToNat,hl,CL,LTN])
def qd (p1 : aa) (p2 : Int) : Option Bool :=
 some (decide (p1.To = p2))
theorem zcgs (p1 : aa) (p2 : Int) (r : Bool) (h : qd p1 p2 = some r) (τ : TH) (o0 : Nat) (hl : τ.lock ≤ τ.next) (ha0 : τ.at o0 = some ⟨de,[.int .i64 p2]⟩) (hi0 : o0 < τ.next) : Ru G io [.agg [.int .i64 p1.From,.int .i64 p1.To,.int .i64 p1.Ledger,.str p1.Asset,.int .i64 p1.Amount],.ptr o0 0] τ (.bool r) τ := by
 refine li fun K hK => ?_
 rw [ce zcrc (Nat.le_of_ble_eq_true rfl)]
 unfold qd at h
 injection h with h; subst h
 simp only [zcqo,TT,Ic.t,ci,reduceEqDiff,reduceIte,reduceAdd,reduceLT,reduceCtorEq,reduceToNat,hl,ha0,hi0,CL,LTN]
 exact hK
theorem zcr4 (p1 : aa) (p2 : Int) (r : Bool) (h : qd p1 p2 = some r) (lk : Bool) (d : Option Nat) (K : aq) (fr : TF) (tk : TK) (τ : TH) (o0 : Nat) (hl : τ.lock ≤ τ.next) (ha0 : τ.at o0 = some ⟨de,[.int .i64 p2]⟩) (hi0 : o0 < τ.next) : fi G lk io [.agg [.int .i64 p1.From,.int .i64 p1.To,.int .i64 p1.Ledger,.str p1.Asset,.int .i64 p1.Amount],.ptr o0 0] d K fr tk τ = K (ew fr d (.bool r)) tk τ :=
 aw (zcgs p1 p2 r h τ o0 hl ha0 hi0) (zcgs p1 p2 r h (τ.locked τ.next) o0 (Nat.le_refl _) (by rw [zaqi]; exact ha0) hi0) (by simp only [TT,Ic.t,ci,reduceEqDiff,reduceIte,reduceAdd,reduceLT,reduceCtorEq,reduceToNat,hl,ha0,hi0,CL,LTN])
def dv (v0 : Int) (v2 : (List aa)) (v3 : Int) (v1 : (List Int)) (v4 : Int) : Option (LS ((List Int) × Int) ((List Int))) :=
 if v4 < v3 then
  ixL v2 v4 >>= fun y2 =>
  qd (⟨y2.From,y2.To,y2.Ledger,y2.Asset,y2.Amount⟩ : aa) v0 >>= fun y4 =>
  if y4 = true then
   if (v1.length + 1) * 8 ≤ 140737488355328 then
    some (.nx ((v1 ++ [v4]),(IntKind.i64.wrap (v4 + (1 : Int)))))
   else
    none
  else
  some (.nx (v1,(IntKind.i64.wrap (v4 + (1 : Int)))))
 else
 some (.dn v1)
def ip (v0 : Int) (v2 : (List aa)) (v3 : Int) (v1 : (List Int)) (v4 : Int) : Option ((List Int)) := qb (fun st => dv v0 v2 v3 st.1 st.2) (v1,v4)
theorem z5 (v0 : Int) (v2 : (List aa)) (v3 : Int) (v1 : (List Int)) (v4 : Int) : ip v0 v2 v3 v1 v4 = dv v0 v2 v3 v1 v4 >>= LS.go (fun st => ip v0 v2 v3 st.1 st.2) := ig (fun st => dv v0 v2 v3 st.1 st.2) (v1,v4)
def mm (v0 : Int) (v2 : (List aa)) (v3 : Int) (v1 : (List Int)) (v4 : Int) (r : (List Int)) : Prop := ∀ (τ : TH) (o0 : Nat) (n0 : Nat) (ty0 : TypeId) (hnn0 : n0 = v1.length) (hty0 : n0 = 0 ∨ ty0 = de) (hl : τ.lock ≤ τ.next) (ha0 : τ.at o0 = some ⟨de,[.int .i64 v0]⟩) (hi0 : o0 < τ.next) (Q : TEx → aq) (hQ0 : ∀ (fr : TF) (tk2 : TK) (τ2 : TH),∀ (u0 : TypeId),(r.length = 0 ∨ u0 = de) → lkp fr 5 = .sla 0 (List.map (TV.int .i64) r) → tk2.take 1 = [some (r.length,u0)] → τ2.cut τ.next = τ → Q (.exit 0) fr tk2 τ2) ,tW G (.loop [1,5,12,13,14] ib) Q [(1,.func io [] [.ptr o0 0]),(5,.sla 0 (List.map (TV.int .i64) v1)),(12,.sl (List.map aa.tv v2)),(13,.int .i64 v3),(14,.int .i64 v4)] [some (n0,ty0)] τ
theorem zcsf (v0 : Int) (v2 : (List aa)) (v3 : Int) (v1 : (List Int)) (v4 : Int) (r : (List Int)) (h : ip v0 v2 v3 v1 v4 = some r) : mm v0 v2 v3 v1 v4 r := by
 refine fh (f := fun st => dv v0 v2 v3 st.1 st.2) (P := fun st r => ∀ (v1 : (List Int)) (v4 : Int),(v1,v4) = st → mm v0 v2 v3 v1 v4 r) ?_ h v1 v4 rfl
 clear h r v4 v1
 intro st o h r ih v1 v4 hst τ o0  n0 ty0 hnn0 hty0 hl ha0 hi0 Q hQ0
 subst hst
 have h : dv v0 v2 v3 v1 v4 = some o := h
 unfold dv at h
 subst hnn0
 refine nv fun LQ hn hr he => ?_
 by_cases c1 : v4 < v3
 · rw [if_pos c1] at h
   obtain ⟨y2,hy2,h⟩ := ob h
   have f3 := bx hy2
   have f3a := (f3.2.2 aa.tv).1
   have f3b := (f3.2.2 aa.tv).2
   try simp only [CL,MC,reduceToNat] at f3 f3a f3b
   obtain ⟨y4,hy4,h⟩ := ob h
   have k5 := zcr4 (⟨y2.From,y2.To,y2.Ledger,y2.Asset,y2.Amount⟩ : aa) v0 _ hy4
   try simp only [CL,MC,reduceToNat] at k5
   by_cases c6 : y4 = true
   · rw [if_pos c6] at h
     obtain ⟨c7,h⟩ := ifS h
     have f8 : 1 ≤ maxLen := by unfold maxLen; omega
     have f9 : v1.length + 1 ≤ maxLen := by unfold maxLen; omega
     have f10 : ((List.map (TV.int .i64) v1).all fun e => e.cells.length == 1) = true := zbbh (fun _ => rfl) _
     have f11 : List.map (TV.int .i64) v1 ++ List.map (TV.int .i64) [v4] = List.map (TV.int .i64) (v1 ++ [v4]) := zbjb _ _
     try simp only [CL,List.map_cons,List.map_nil] at f11
     injection h with h; subst h
     have ih := ih (v1 ++ [v4]) (IntKind.i64.wrap (v4 + (1 : Int))) rfl
     unfold mm at ih
     simp only [ib,gf,TT,Ic.t,ci,reduceEqDiff,reduceIte,reduceAdd,reduceMul,reduceLT,reduceLeDiff,reduceSub,reduceCtorEq,reduceEq,reduceNe,reduceToNat,Int.reduceLT,reduceLE,reduceNeg,hl,ha0,hi0,hty0,c1,f3.1,f3.2.1,f3a,f3b,k5,c6,c7,f8,f9,f10,f11,CL,LTN]
     rw [hn]
     simp only [TT,Ic.t,ci,reduceEqDiff,reduceIte,reduceAdd,reduceMul,reduceLT,reduceLeDiff,reduceSub,reduceCtorEq,reduceEq,reduceNe,reduceToNat,Int.reduceLT,reduceLE,reduceNeg,hl,ha0,hi0,hty0,c1,f3.1,f3.2.1,f3a,f3b,k5,c6,c7,f8,f9,f10,f11,CL,LTN]
     exact ih  τ o0  (v1.length + 1) de (by first | rfl | simp [ar]) (by first | exact hty0 | exact Or.inr rfl | assumption | simp) (by first | assumption | (simp only [ag,ah]; assumption)) (by simp only [TT,Ic.t,ci,reduceEqDiff,reduceIte,reduceAdd,reduceMul,reduceLT,reduceLeDiff,reduceSub,reduceCtorEq,reduceEq,reduceNe,reduceToNat,Int.reduceLT,reduceLE,reduceNeg,hl,ha0,hi0,hty0,c1,f3.1,f3.2.1,f3a,f3b,k5,c6,c7,f8,f9,f10,f11,CL,LTN]) (by first | assumption | (simp only [ag,ah]; assumption)) Q hQ0
   rw [if_neg c6] at h
   have c6 := Bool.eq_false_iff.2 c6
   injection h with h; subst h
   have ih := ih v1 (IntKind.i64.wrap (v4 + (1 : Int))) rfl
   unfold mm at ih
   simp only [ib,gf,TT,Ic.t,ci,reduceEqDiff,reduceIte,reduceAdd,reduceMul,reduceLT,reduceLeDiff,reduceSub,reduceCtorEq,reduceEq,reduceNe,reduceToNat,Int.reduceLT,reduceLE,reduceNeg,hl,ha0,hi0,hty0,c1,f3.1,f3.2.1,f3a,f3b,k5,c6,CL,LTN]
   rw [hn]
   simp only [TT,Ic.t,ci,reduceEqDiff,reduceIte,reduceAdd,reduceMul,reduceLT,reduceLeDiff,reduceSub,reduceCtorEq,reduceEq,reduceNe,reduceToNat,Int.reduceLT,reduceLE,reduceNeg,hl,ha0,hi0,hty0,c1,f3.1,f3.2.1,f3a,f3b,k5,c6,CL,LTN]
   exact ih  τ o0  _ ty0 (by first | rfl | simp [ar]) (by first | exact hty0 | exact Or.inr rfl | assumption | simp) (by first | assumption | (simp only [ag,ah]; assumption)) (by simp only [TT,Ic.t,ci,reduceEqDiff,reduceIte,reduceAdd,reduceMul,reduceLT,reduceLeDiff,reduceSub,reduceCtorEq,reduceEq,reduceNe,reduceToNat,Int.reduceLT,reduceLE,reduceNeg,hl,ha0,hi0,hty0,c1,f3.1,f3.2.1,f3a,f3b,k5,c6,CL,LTN]) (by first | assumption | (simp only [ag,ah]; assumption)) Q hQ0
 rw [if_neg c1] at h
 injection h with h; subst h
 obtain rfl : _ = r := ih
 simp only [ib,gf,TT,Ic.t,ci,reduceEqDiff,reduceIte,reduceAdd,reduceMul,reduceLT,reduceLeDiff,reduceSub,reduceCtorEq,reduceEq,reduceNe,reduceToNat,Int.reduceLT,reduceLE,reduceNeg,hl,ha0,hi0,hty0,he,hr,c1,CL,LTN]
 exact hQ0  _ _ _ ty0 (by first | exact hty0 | exact Or.inr rfl | assumption | simp) (by first | rfl | (simp only [TT,Ic.t,ci,reduceEqDiff,reduceIte,reduceAdd,reduceMul,reduceLT,reduceLeDiff,reduceSub,reduceCtorEq,reduceEq,reduceNe,reduceToNat,Int.reduceLT,reduceLE,reduceNeg,hl,ha0,hi0,hty0,c1,CL,LTN])) (by first | rfl | (simp only [TT,Ic.t,ci,reduceEqDiff,reduceIte,reduceAdd,reduceMul,reduceLT,reduceLeDiff,reduceSub,reduceCtorEq,reduceEq,reduceNe,reduceToNat,Int.reduceLT,reduceLE,reduceNeg,hl,ha0,hi0,hty0,c1,CL,LTN])) (by first | exact jf (Nat.le_refl _) | (simp only [TT,Ic.t,ci,reduceEqDiff,reduceIte,reduceAdd,reduceMul,reduceLT,reduceLeDiff,reduceSub,reduceCtorEq,reduceEq,reduceNe,reduceToNat,Int.reduceLT,reduceLE,reduceNeg,hl,ha0,hi0,hty0,c1,CL,LTN]))
def vp (p1 : ac) (p2 : Int) : Option (List Int) :=
 kl p1 >>= fun y1 =>
 if y1 = true then
  ip p2 p1.Arcs ((p1.Arcs.length : Nat) : Int) [] (0 : Int) >>= fun y4 =>
  some y4
 else
 some []
theorem zcem (p1 : ac) (p2 : Int) (r : (List Int)) (h : vp p1 p2 = some r) (τ : TH) (o0 : Nat) (hl : τ.lock ≤ τ.next) (ha0 : τ.at o0 = some ⟨de,[.int .i64 p2]⟩) (hi0 : o0 < τ.next) : Ru G kj [.agg [.str p1.ID,.sl (List.map af.tv p1.Parties),.sl (List.map aa.tv p1.Arcs),.sl (List.map (TV.int .i64) p1.Leaders),.sl (List.map TV.str p1.Locks),.int .i64 p1.Start,.int .i64 p1.Delta],.func io [] [.ptr o0 0]] τ (.sl (List.map (TV.int .i64) r)) τ := by
 refine li fun K hK => ?_
 rw [ce zcaq (Nat.le_of_ble_eq_true rfl)]
 unfold vp at h
 obtain ⟨y1,hy1,h⟩ := ob h
 have k2 := sj p1 _ hy1
 try simp only [CL,MC,reduceToNat] at k2
 by_cases c3 : y1 = true
 · rw [if_pos c3] at h
   obtain ⟨y4,hy4,h⟩ := ob h
   simp only [gf,TT,Ic.t,ci,reduceEqDiff,reduceIte,reduceAdd,reduceLT,reduceCtorEq,reduceToNat,hl,ha0,hi0,k2,c3,CL,LTN]
   have Sy4 := zcsf p2 p1.Arcs ((p1.Arcs.length : Nat) : Int) [] (0 : Int) y4 hy4
   unfold mm at Sy4
   refine Sy4 _ o0 0 0 (by first | rfl | simp [ar]) (by first | exact Or.inl rfl | exact Or.inr rfl | assumption | simp) (by first | assumption | omega | (simp only [ag,am,ah,az]; omega)) (by simp only [TT,Ic.t,ci,reduceEqDiff,reduceIte,reduceAdd,reduceLT,reduceCtorEq,reduceToNat,hl,ha0,hi0,k2,c3,CL,LTN]) (by first | assumption | omega | (simp only [ag,am,ah,az]; omega)) _ ?_
   intro frq5 tkq5 τq5 u0q5 uh0q5 g5q5 htq5 hcq5
   have hcq5 := eq (n := τ.next + 1) hcq5 (by first | omega | (simp only [ag,am]; omega))
   try simp only [List.take_succ_cons,List.take_zero,List.take_nil,CL] at htq5
   try simp only [TT,Ic.t,ci,reduceEqDiff,reduceIte,reduceAdd,reduceLT,reduceCtorEq,reduceToNat,hl,ha0,hi0,k2,c3,CL,LTN] at hcq5
   injection h with h; subst h
   simp only [gf,TT,Ic.t,ci,reduceEqDiff,reduceIte,reduceAdd,reduceLT,reduceCtorEq,reduceToNat,hl,ha0,hi0,k2,c3,uh0q5,g5q5,htq5,hcq5,CL,LTN]
   first | exact hK | (simp only [hl,ha0,hi0,k2,c3,uh0q5,g5q5,htq5,hcq5,CL] at hK; exact hK)
 rw [if_neg c3] at h
 have c3 := Bool.eq_false_iff.2 c3
 injection h with h; subst h
 simp only [gf,TT,Ic.t,ci,reduceEqDiff,reduceIte,reduceAdd,reduceLT,reduceCtorEq,reduceToNat,hl,ha0,hi0,k2,c3,CL,LTN]
 first | exact hK | (simp only [hl,ha0,hi0,k2,c3,CL] at hK; exact hK)
theorem zcra (p1 : ac) (p2 : Int) (r : (List Int)) (h : vp p1 p2 = some r) (lk : Bool) (d : Option Nat) (K : aq) (fr : TF) (tk : TK) (τ : TH) (o0 : Nat) (hl : τ.lock ≤ τ.next) (ha0 : τ.at o0 = some ⟨de,[.int .i64 p2]⟩) (hi0 : o0 < τ.next) : fi G lk kj [.agg [.str p1.ID,.sl (List.map af.tv p1.Parties),.sl (List.map aa.tv p1.Arcs),.sl (List.map (TV.int .i64) p1.Leaders),.sl (List.map TV.str p1.Locks),.int .i64 p1.Start,.int .i64 p1.Delta],.func io [] [.ptr o0 0]] d K fr tk τ = K (ew fr d (.sl (List.map (TV.int .i64) r))) tk τ :=
 aw (zcem p1 p2 r h τ o0 hl ha0 hi0) (zcem p1 p2 r h (τ.locked τ.next) o0 (Nat.le_refl _) (by rw [zaqi]; exact ha0) hi0) (by simp only [TT,Ic.t,ci,reduceEqDiff,reduceIte,reduceAdd,reduceLT,reduceCtorEq,reduceToNat,hl,ha0,hi0,CL,LTN])
def qz (p1 : ac) (p2 : Int) : Option (List Int) :=
 vp p1 p2 >>= fun y1 =>
 some y1
theorem zcfa (p1 : ac) (p2 : Int) (r : (List Int)) (h : qz p1 p2 = some r) (τ : TH) (hl : τ.lock ≤ τ.next) : Ru G re [.agg [.str p1.ID,.sl (List.map af.tv p1.Parties),.sl (List.map aa.tv p1.Arcs),.sl (List.map (TV.int .i64) p1.Leaders),.sl (List.map TV.str p1.Locks),.int .i64 p1.Start,.int .i64 p1.Delta],.int .i64 p2] τ (.sl (List.map (TV.int .i64) r)) τ := by
 refine li fun K hK => ?_
 rw [ce zcqa (Nat.le_of_ble_eq_true rfl)]
 unfold qz at h
 obtain ⟨y1,hy1,h⟩ := ob h
 have k2 := zcra p1 p2 _ hy1
 try simp only [CL,MC,reduceToNat] at k2
 injection h with h; subst h
 simp only [zcpk,TT,Ic.t,ci,reduceEqDiff,reduceIte,reduceAdd,reduceLT,reduceCtorEq,reduceToNat,hl,k2,CL,LTN]
 exact hK
theorem zcq8 (p1 : ac) (p2 : Int) (r : (List Int)) (h : qz p1 p2 = some r) (lk : Bool) (d : Option Nat) (K : aq) (fr : TF) (tk : TK) (τ : TH) (hl : τ.lock ≤ τ.next) : fi G lk re [.agg [.str p1.ID,.sl (List.map af.tv p1.Parties),.sl (List.map aa.tv p1.Arcs),.sl (List.map (TV.int .i64) p1.Leaders),.sl (List.map TV.str p1.Locks),.int .i64 p1.Start,.int .i64 p1.Delta],.int .i64 p2] d K fr tk τ = K (ew fr d (.sl (List.map (TV.int .i64) r))) tk τ :=
 aw (zcfa p1 p2 r h τ  hl) (zcfa p1 p2 r h (τ.locked τ.next)  (Nat.le_refl _) ) (by simp only [TT,Ic.t,ci,reduceEqDiff,reduceIte,reduceAdd,reduceLT,reduceCtorEq,reduceToNat,hl,CL,LTN])
def qc (p1 : aa) (p2 : Int) : Option Bool :=
 some (decide (p1.From = p2))
theorem zcgt (p1 : aa) (p2 : Int) (r : Bool) (h : qc p1 p2 = some r) (τ : TH) (o0 : Nat) (hl : τ.lock ≤ τ.next) (ha0 : τ.at o0 = some ⟨de,[.int .i64 p2]⟩) (hi0 : o0 < τ.next) : Ru G im [.agg [.int .i64 p1.From,.int .i64 p1.To,.int .i64 p1.Ledger,.str p1.Asset,.int .i64 p1.Amount],.ptr o0 0] τ (.bool r) τ := by
 refine li fun K hK => ?_
 rw [ce zcq3 (Nat.le_of_ble_eq_true rfl)]
 unfold qc at h
 injection h with h; subst h
 simp only [zcqp,TT,Ic.t,ci,reduceEqDiff,reduceIte,reduceAdd,reduceLT,reduceCtorEq,reduceToNat,hl,ha0,hi0,CL,LTN]
 exact hK
theorem zcr5 (p1 : aa) (p2 : Int) (r : Bool) (h : qc p1 p2 = some r) (lk : Bool) (d : Option Nat) (K : aq) (fr : TF) (tk : TK) (τ : TH) (o0 : Nat) (hl : τ.lock ≤ τ.next) (ha0 : τ.at o0 = some ⟨de,[.int .i64 p2]⟩) (hi0 : o0 < τ.next) : fi G lk im [.agg [.int .i64 p1.From,.int .i64 p1.To,.int .i64 p1.Ledger,.str p1.Asset,.int .i64 p1.Amount],.ptr o0 0] d K fr tk τ = K (ew fr d (.bool r)) tk τ :=
 aw (zcgt p1 p2 r h τ o0 hl ha0 hi0) (zcgt p1 p2 r h (τ.locked τ.next) o0 (Nat.le_refl _) (by rw [zaqi]; exact ha0) hi0) (by simp only [TT,Ic.t,ci,reduceEqDiff,reduceIte,reduceAdd,reduceLT,reduceCtorEq,reduceToNat,hl,ha0,hi0,CL,LTN])
def dj (v0 : Int) (v2 : (List aa)) (v3 : Int) (v1 : (List Int)) (v4 : Int) : Option (LS ((List Int) × Int) ((List Int))) :=
 if v4 < v3 then
  ixL v2 v4 >>= fun y2 =>
  qc (⟨y2.From,y2.To,y2.Ledger,y2.Asset,y2.Amount⟩ : aa) v0 >>= fun y4 =>
  if y4 = true then
   if (v1.length + 1) * 8 ≤ 140737488355328 then
    some (.nx ((v1 ++ [v4]),(IntKind.i64.wrap (v4 + (1 : Int)))))
   else
    none
  else
  some (.nx (v1,(IntKind.i64.wrap (v4 + (1 : Int)))))
 else
 some (.dn v1)
def gv (v0 : Int) (v2 : (List aa)) (v3 : Int) (v1 : (List Int)) (v4 : Int) : Option ((List Int)) := qb (fun st => dj v0 v2 v3 st.1 st.2) (v1,v4)
theorem yo (v0 : Int) (v2 : (List aa)) (v3 : Int) (v1 : (List Int)) (v4 : Int) : gv v0 v2 v3 v1 v4 = dj v0 v2 v3 v1 v4 >>= LS.go (fun st => gv v0 v2 v3 st.1 st.2) := ig (fun st => dj v0 v2 v3 st.1 st.2) (v1,v4)
def lx (v0 : Int) (v2 : (List aa)) (v3 : Int) (v1 : (List Int)) (v4 : Int) (r : (List Int)) : Prop := ∀ (τ : TH) (o0 : Nat) (n0 : Nat) (ty0 : TypeId) (hnn0 : n0 = v1.length) (hty0 : n0 = 0 ∨ ty0 = de) (hl : τ.lock ≤ τ.next) (ha0 : τ.at o0 = some ⟨de,[.int .i64 v0]⟩) (hi0 : o0 < τ.next) (Q : TEx → aq) (hQ0 : ∀ (fr : TF) (tk2 : TK) (τ2 : TH),∀ (u0 : TypeId),(r.length = 0 ∨ u0 = de) → lkp fr 5 = .sla 0 (List.map (TV.int .i64) r) → tk2.take 1 = [some (r.length,u0)] → τ2.cut τ.next = τ → Q (.exit 0) fr tk2 τ2) ,tW G (.loop [1,5,12,13,14] ib) Q [(1,.func im [] [.ptr o0 0]),(5,.sla 0 (List.map (TV.int .i64) v1)),(12,.sl (List.map aa.tv v2)),(13,.int .i64 v3),(14,.int .i64 v4)] [some (n0,ty0)] τ
theorem zcsh (v0 : Int) (v2 : (List aa)) (v3 : Int) (v1 : (List Int)) (v4 : Int) (r : (List Int)) (h : gv v0 v2 v3 v1 v4 = some r) : lx v0 v2 v3 v1 v4 r := by
 refine fh (f := fun st => dj v0 v2 v3 st.1 st.2) (P := fun st r => ∀ (v1 : (List Int)) (v4 : Int),(v1,v4) = st → lx v0 v2 v3 v1 v4 r) ?_ h v1 v4 rfl
 clear h r v4 v1
 intro st o h r ih v1 v4 hst τ o0  n0 ty0 hnn0 hty0 hl ha0 hi0 Q hQ0
 subst hst
 have h : dj v0 v2 v3 v1 v4 = some o := h
 unfold dj at h
 subst hnn0
 refine nv fun LQ hn hr he => ?_
 by_cases c1 : v4 < v3
 · rw [if_pos c1] at h
   obtain ⟨y2,hy2,h⟩ := ob h
   have f3 := bx hy2
   have f3a := (f3.2.2 aa.tv).1
   have f3b := (f3.2.2 aa.tv).2
   try simp only [CL,MC,reduceToNat] at f3 f3a f3b
   obtain ⟨y4,hy4,h⟩ := ob h
   have k5 := zcr5 (⟨y2.From,y2.To,y2.Ledger,y2.Asset,y2.Amount⟩ : aa) v0 _ hy4
   try simp only [CL,MC,reduceToNat] at k5
   by_cases c6 : y4 = true
   · rw [if_pos c6] at h
     obtain ⟨c7,h⟩ := ifS h
     have f8 : 1 ≤ maxLen := by unfold maxLen; omega
     have f9 : v1.length + 1 ≤ maxLen := by unfold maxLen; omega
     have f10 : ((List.map (TV.int .i64) v1).all fun e => e.cells.length == 1) = true := zbbh (fun _ => rfl) _
     have f11 : List.map (TV.int .i64) v1 ++ List.map (TV.int .i64) [v4] = List.map (TV.int .i64) (v1 ++ [v4]) := zbjb _ _
     try simp only [CL,List.map_cons,List.map_nil] at f11
     injection h with h; subst h
     have ih := ih (v1 ++ [v4]) (IntKind.i64.wrap (v4 + (1 : Int))) rfl
     unfold lx at ih
     simp only [ib,gf,TT,Ic.t,ci,reduceEqDiff,reduceIte,reduceAdd,reduceMul,reduceLT,reduceLeDiff,reduceSub,reduceCtorEq,reduceEq,reduceNe,reduceToNat,Int.reduceLT,reduceLE,reduceNeg,hl,ha0,hi0,hty0,c1,f3.1,f3.2.1,f3a,f3b,k5,c6,c7,f8,f9,f10,f11,CL,LTN]
     rw [hn]
     simp only [TT,Ic.t,ci,reduceEqDiff,reduceIte,reduceAdd,reduceMul,reduceLT,reduceLeDiff,reduceSub,reduceCtorEq,reduceEq,reduceNe,reduceToNat,Int.reduceLT,reduceLE,reduceNeg,hl,ha0,hi0,hty0,c1,f3.1,f3.2.1,f3a,f3b,k5,c6,c7,f8,f9,f10,f11,CL,LTN]
     exact ih  τ o0  (v1.length + 1) de (by first | rfl | simp [ar]) (by first | exact hty0 | exact Or.inr rfl | assumption | simp) (by first | assumption | (simp only [ag,ah]; assumption)) (by simp only [TT,Ic.t,ci,reduceEqDiff,reduceIte,reduceAdd,reduceMul,reduceLT,reduceLeDiff,reduceSub,reduceCtorEq,reduceEq,reduceNe,reduceToNat,Int.reduceLT,reduceLE,reduceNeg,hl,ha0,hi0,hty0,c1,f3.1,f3.2.1,f3a,f3b,k5,c6,c7,f8,f9,f10,f11,CL,LTN]) (by first | assumption | (simp only [ag,ah]; assumption)) Q hQ0
   rw [if_neg c6] at h
   have c6 := Bool.eq_false_iff.2 c6
   injection h with h; subst h
   have ih := ih v1 (IntKind.i64.wrap (v4 + (1 : Int))) rfl
   unfold lx at ih
   simp only [ib,gf,TT,Ic.t,ci,reduceEqDiff,reduceIte,reduceAdd,reduceMul,reduceLT,reduceLeDiff,reduceSub,reduceCtorEq,reduceEq,reduceNe,reduceToNat,Int.reduceLT,reduceLE,reduceNeg,hl,ha0,hi0,hty0,c1,f3.1,f3.2.1,f3a,f3b,k5,c6,CL,LTN]
   rw [hn]
   simp only [TT,Ic.t,ci,reduceEqDiff,reduceIte,reduceAdd,reduceMul,reduceLT,reduceLeDiff,reduceSub,reduceCtorEq,reduceEq,reduceNe,reduceToNat,Int.reduceLT,reduceLE,reduceNeg,hl,ha0,hi0,hty0,c1,f3.1,f3.2.1,f3a,f3b,k5,c6,CL,LTN]
   exact ih  τ o0  _ ty0 (by first | rfl | simp [ar]) (by first | exact hty0 | exact Or.inr rfl | assumption | simp) (by first | assumption | (simp only [ag,ah]; assumption)) (by simp only [TT,Ic.t,ci,reduceEqDiff,reduceIte,reduceAdd,reduceMul,reduceLT,reduceLeDiff,reduceSub,reduceCtorEq,reduceEq,reduceNe,reduceToNat,Int.reduceLT,reduceLE,reduceNeg,hl,ha0,hi0,hty0,c1,f3.1,f3.2.1,f3a,f3b,k5,c6,CL,LTN]) (by first | assumption | (simp only [ag,ah]; assumption)) Q hQ0
 rw [if_neg c1] at h
 injection h with h; subst h
 obtain rfl : _ = r := ih
 simp only [ib,gf,TT,Ic.t,ci,reduceEqDiff,reduceIte,reduceAdd,reduceMul,reduceLT,reduceLeDiff,reduceSub,reduceCtorEq,reduceEq,reduceNe,reduceToNat,Int.reduceLT,reduceLE,reduceNeg,hl,ha0,hi0,hty0,he,hr,c1,CL,LTN]
 exact hQ0  _ _ _ ty0 (by first | exact hty0 | exact Or.inr rfl | assumption | simp) (by first | rfl | (simp only [TT,Ic.t,ci,reduceEqDiff,reduceIte,reduceAdd,reduceMul,reduceLT,reduceLeDiff,reduceSub,reduceCtorEq,reduceEq,reduceNe,reduceToNat,Int.reduceLT,reduceLE,reduceNeg,hl,ha0,hi0,hty0,c1,CL,LTN])) (by first | rfl | (simp only [TT,Ic.t,ci,reduceEqDiff,reduceIte,reduceAdd,reduceMul,reduceLT,reduceLeDiff,reduceSub,reduceCtorEq,reduceEq,reduceNe,reduceToNat,Int.reduceLT,reduceLE,reduceNeg,hl,ha0,hi0,hty0,c1,CL,LTN])) (by first | exact jf (Nat.le_refl _) | (simp only [TT,Ic.t,ci,reduceEqDiff,reduceIte,reduceAdd,reduceMul,reduceLT,reduceLeDiff,reduceSub,reduceCtorEq,reduceEq,reduceNe,reduceToNat,Int.reduceLT,reduceLE,reduceNeg,hl,ha0,hi0,hty0,c1,CL,LTN]))
def sq (p1 : ac) (p2 : Int) : Option (List Int) :=
 kl p1 >>= fun y1 =>
 if y1 = true then
  gv p2 p1.Arcs ((p1.Arcs.length : Nat) : Int) [] (0 : Int) >>= fun y4 =>
  some y4
 else
 some []
theorem zcf3 (p1 : ac) (p2 : Int) (r : (List Int)) (h : sq p1 p2 = some r) (τ : TH) (o0 : Nat) (hl : τ.lock ≤ τ.next) (ha0 : τ.at o0 = some ⟨de,[.int .i64 p2]⟩) (hi0 : o0 < τ.next) : Ru G kj [.agg [.str p1.ID,.sl (List.map af.tv p1.Parties),.sl (List.map aa.tv p1.Arcs),.sl (List.map (TV.int .i64) p1.Leaders),.sl (List.map TV.str p1.Locks),.int .i64 p1.Start,.int .i64 p1.Delta],.func im [] [.ptr o0 0]] τ (.sl (List.map (TV.int .i64) r)) τ := by
 refine li fun K hK => ?_
 rw [ce zcaq (Nat.le_of_ble_eq_true rfl)]
 unfold sq at h
 obtain ⟨y1,hy1,h⟩ := ob h
 have k2 := sj p1 _ hy1
 try simp only [CL,MC,reduceToNat] at k2
 by_cases c3 : y1 = true
 · rw [if_pos c3] at h
   obtain ⟨y4,hy4,h⟩ := ob h
   simp only [gf,TT,Ic.t,ci,reduceEqDiff,reduceIte,reduceAdd,reduceLT,reduceCtorEq,reduceToNat,hl,ha0,hi0,k2,c3,CL,LTN]
   have Sy4 := zcsh p2 p1.Arcs ((p1.Arcs.length : Nat) : Int) [] (0 : Int) y4 hy4
   unfold lx at Sy4
   refine Sy4 _ o0 0 0 (by first | rfl | simp [ar]) (by first | exact Or.inl rfl | exact Or.inr rfl | assumption | simp) (by first | assumption | omega | (simp only [ag,am,ah,az]; omega)) (by simp only [TT,Ic.t,ci,reduceEqDiff,reduceIte,reduceAdd,reduceLT,reduceCtorEq,reduceToNat,hl,ha0,hi0,k2,c3,CL,LTN]) (by first | assumption | omega | (simp only [ag,am,ah,az]; omega)) _ ?_
   intro frq5 tkq5 τq5 u0q5 uh0q5 g5q5 htq5 hcq5
   have hcq5 := eq (n := τ.next + 1) hcq5 (by first | omega | (simp only [ag,am]; omega))
   try simp only [List.take_succ_cons,List.take_zero,List.take_nil,CL] at htq5
   try simp only [TT,Ic.t,ci,reduceEqDiff,reduceIte,reduceAdd,reduceLT,reduceCtorEq,reduceToNat,hl,ha0,hi0,k2,c3,CL,LTN] at hcq5
   injection h with h; subst h
   simp only [gf,TT,Ic.t,ci,reduceEqDiff,reduceIte,reduceAdd,reduceLT,reduceCtorEq,reduceToNat,hl,ha0,hi0,k2,c3,uh0q5,g5q5,htq5,hcq5,CL,LTN]
   first | exact hK | (simp only [hl,ha0,hi0,k2,c3,uh0q5,g5q5,htq5,hcq5,CL] at hK; exact hK)
 rw [if_neg c3] at h
 have c3 := Bool.eq_false_iff.2 c3
 injection h with h; subst h
 simp only [gf,TT,Ic.t,ci,reduceEqDiff,reduceIte,reduceAdd,reduceLT,reduceCtorEq,reduceToNat,hl,ha0,hi0,k2,c3,CL,LTN]
 first | exact hK | (simp only [hl,ha0,hi0,k2,c3,CL] at hK; exact hK)
theorem zcrr (p1 : ac) (p2 : Int) (r : (List Int)) (h : sq p1 p2 = some r) (lk : Bool) (d : Option Nat) (K : aq) (fr : TF) (tk : TK) (τ : TH) (o0 : Nat) (hl : τ.lock ≤ τ.next) (ha0 : τ.at o0 = some ⟨de,[.int .i64 p2]⟩) (hi0 : o0 < τ.next) : fi G lk kj [.agg [.str p1.ID,.sl (List.map af.tv p1.Parties),.sl (List.map aa.tv p1.Arcs),.sl (List.map (TV.int .i64) p1.Leaders),.sl (List.map TV.str p1.Locks),.int .i64 p1.Start,.int .i64 p1.Delta],.func im [] [.ptr o0 0]] d K fr tk τ = K (ew fr d (.sl (List.map (TV.int .i64) r))) tk τ :=
 aw (zcf3 p1 p2 r h τ o0 hl ha0 hi0) (zcf3 p1 p2 r h (τ.locked τ.next) o0 (Nat.le_refl _) (by rw [zaqi]; exact ha0) hi0) (by simp only [TT,Ic.t,ci,reduceEqDiff,reduceIte,reduceAdd,reduceLT,reduceCtorEq,reduceToNat,hl,ha0,hi0,CL,LTN])
def qy (p1 : ac) (p2 : Int) : Option (List Int) :=
 sq p1 p2 >>= fun y1 =>
 some y1
theorem zcfb (p1 : ac) (p2 : Int) (r : (List Int)) (h : qy p1 p2 = some r) (τ : TH) (hl : τ.lock ≤ τ.next) : Ru G rc [.agg [.str p1.ID,.sl (List.map af.tv p1.Parties),.sl (List.map aa.tv p1.Arcs),.sl (List.map (TV.int .i64) p1.Leaders),.sl (List.map TV.str p1.Locks),.int .i64 p1.Start,.int .i64 p1.Delta],.int .i64 p2] τ (.sl (List.map (TV.int .i64) r)) τ := by
 refine li fun K hK => ?_
 rw [ce zcqb (Nat.le_of_ble_eq_true rfl)]
 unfold qy at h
 obtain ⟨y1,hy1,h⟩ := ob h
 have k2 := zcrr p1 p2 _ hy1
 try simp only [CL,MC,reduceToNat] at k2
 injection h with h; subst h
 simp only [zcpl,TT,Ic.t,ci,reduceEqDiff,reduceIte,reduceAdd,reduceLT,reduceCtorEq,reduceToNat,hl,k2,CL,LTN]
 exact hK
theorem zcq9 (p1 : ac) (p2 : Int) (r : (List Int)) (h : qy p1 p2 = some r) (lk : Bool) (d : Option Nat) (K : aq) (fr : TF) (tk : TK) (τ : TH) (hl : τ.lock ≤ τ.next) : fi G lk rc [.agg [.str p1.ID,.sl (List.map af.tv p1.Parties),.sl (List.map aa.tv p1.Arcs),.sl (List.map (TV.int .i64) p1.Leaders),.sl (List.map TV.str p1.Locks),.int .i64 p1.Start,.int .i64 p1.Delta],.int .i64 p2] d K fr tk τ = K (ew fr d (.sl (List.map (TV.int .i64) r))) tk τ :=
 aw (zcfb p1 p2 r h τ  hl) (zcfb p1 p2 r h (τ.locked τ.next)  (Nat.le_refl _) ) (by simp only [TT,Ic.t,ci,reduceEqDiff,reduceIte,reduceAdd,reduceLT,reduceCtorEq,reduceToNat,hl,CL,LTN])
def xf  : Option Bool :=
 zj (3 : Int) (5 : Int) (6 : Int) >>= fun y1 =>
 n5 y1 >>= fun y3 =>
 if y3 = true then
  iq y1 [(0 : Int),(1 : Int),(2 : Int)] >>= fun y6 =>
  if y6 = true then
   iq y1 [(0 : Int),(2 : Int)] >>= fun y9 =>
   if y9 = true then
    some false
   else
   qz y1 (0 : Int) >>= fun y12 =>
   if ((y12.length : Nat) : Int) = (1 : Int) then
    qy y1 (0 : Int) >>= fun y15 =>
    if ((y15.length : Nat) : Int) = (1 : Int) then
     n5 (⟨(⟨#[]⟩ : ByteArray),[],[],[],[],(0 : Int),(0 : Int)⟩ : ac) >>= fun y18 =>
     some (!y18)
    else
    some false
   else
   some false
  else
  some false
 else
 some false
theorem zcaj  (r : Bool) (h : xf  = some r) (τ : TH) (hl : τ.lock ≤ τ.next) : Ru G xj [] τ (.bool r) τ := by
 refine li fun K hK => ?_
 rw [ce zctg (Nat.le_of_ble_eq_true rfl)]
 unfold xf at h
 obtain ⟨y1,hy1,h⟩ := ob h
 have k2 := zb9y (3 : Int) (5 : Int) (6 : Int) _ hy1
 try simp only [CL,MC,reduceToNat] at k2
 obtain ⟨y3,hy3,h⟩ := ob h
 have k4 := zcfc y1 _ hy3
 try simp only [CL,MC,reduceToNat] at k4
 by_cases c5 : y3 = true
 · rw [if_pos c5] at h
   obtain ⟨y6,hy6,h⟩ := ob h
   have k7 := mz y1 [(0 : Int),(1 : Int),(2 : Int)] _ hy6
   try simp only [CL,MC,reduceToNat] at k7
   by_cases c8 : y6 = true
   · rw [if_pos c8] at h
     obtain ⟨y9,hy9,h⟩ := ob h
     have k10 := mz y1 [(0 : Int),(2 : Int)] _ hy9
     try simp only [CL,MC,reduceToNat] at k10
     by_cases c11 : y9 = true
     · rw [if_pos c11] at h
       injection h with h; subst h
       simp only [xc,TT,Ic.t,ci,reduceEqDiff,reduceIte,reduceAdd,reduceLT,reduceCtorEq,reduceToNat,hl,k2,k4,c5,k7,c8,k10,c11,CL,LTN]
       first | exact hK | (simp only [hl,k2,k4,c5,k7,c8,k10,c11,CL] at hK; exact hK)
     rw [if_neg c11] at h
     have c11 := Bool.eq_false_iff.2 c11
     obtain ⟨y12,hy12,h⟩ := ob h
     have k13 := zcq8 y1 (0 : Int) _ hy12
     try simp only [CL,MC,reduceToNat] at k13
     by_cases c14 : ((y12.length : Nat) : Int) = (1 : Int)
     · rw [if_pos c14] at h
       obtain ⟨y15,hy15,h⟩ := ob h
       have k16 := zcq9 y1 (0 : Int) _ hy15
       try simp only [CL,MC,reduceToNat] at k16
       by_cases c17 : ((y15.length : Nat) : Int) = (1 : Int)
       · rw [if_pos c17] at h
         obtain ⟨y18,hy18,h⟩ := ob h
         have k19 := zcfc (⟨(⟨#[]⟩ : ByteArray),[],[],[],[],(0 : Int),(0 : Int)⟩ : ac) _ hy18
         try simp only [CL,MC,reduceToNat] at k19
         injection h with h; subst h
         simp only [xc,TT,Ic.t,ci,reduceEqDiff,reduceIte,reduceAdd,reduceLT,reduceCtorEq,reduceToNat,hl,k2,k4,c5,k7,c8,k10,c11,k13,eq_true c14,k16,eq_true c17,k19,CL,LTN]
         first | exact hK | (simp only [hl,k2,k4,c5,k7,c8,k10,c11,k13,eq_true c14,k16,eq_true c17,k19,CL] at hK; exact hK)
       rw [if_neg c17] at h
       injection h with h; subst h
       simp only [xc,TT,Ic.t,ci,reduceEqDiff,reduceIte,reduceAdd,reduceLT,reduceCtorEq,reduceToNat,hl,k2,k4,c5,k7,c8,k10,c11,k13,eq_true c14,k16,c17,CL,LTN]
       first | exact hK | (simp only [hl,k2,k4,c5,k7,c8,k10,c11,k13,eq_true c14,k16,c17,CL] at hK; exact hK)
     rw [if_neg c14] at h
     injection h with h; subst h
     simp only [xc,TT,Ic.t,ci,reduceEqDiff,reduceIte,reduceAdd,reduceLT,reduceCtorEq,reduceToNat,hl,k2,k4,c5,k7,c8,k10,c11,k13,c14,CL,LTN]
     first | exact hK | (simp only [hl,k2,k4,c5,k7,c8,k10,c11,k13,c14,CL] at hK; exact hK)
   rw [if_neg c8] at h
   have c8 := Bool.eq_false_iff.2 c8
   injection h with h; subst h
   simp only [xc,TT,Ic.t,ci,reduceEqDiff,reduceIte,reduceAdd,reduceLT,reduceCtorEq,reduceToNat,hl,k2,k4,c5,k7,c8,CL,LTN]
   first | exact hK | (simp only [hl,k2,k4,c5,k7,c8,CL] at hK; exact hK)
 rw [if_neg c5] at h
 have c5 := Bool.eq_false_iff.2 c5
 injection h with h; subst h
 simp only [xc,TT,Ic.t,ci,reduceEqDiff,reduceIte,reduceAdd,reduceLT,reduceCtorEq,reduceToNat,hl,k2,k4,c5,CL,LTN]
 first | exact hK | (simp only [hl,k2,k4,c5,CL] at hK; exact hK)
theorem zcpg  (r : Bool) (h : xf  = some r) (lk : Bool) (d : Option Nat) (K : aq) (fr : TF) (tk : TK) (τ : TH) (hl : τ.lock ≤ τ.next) : fi G lk xj [] d K fr tk τ = K (ew fr d (.bool r)) tk τ :=
 aw (zcaj  r h τ  hl) (zcaj  r h (τ.locked τ.next)  (Nat.le_refl _) ) (by simp only [TT,Ic.t,ci,reduceEqDiff,reduceIte,reduceAdd,reduceLT,reduceCtorEq,reduceToNat,hl,CL,LTN])
def df (v0 : Int) (v1 : ac) (v2 : Int) (v3 : Int) (v4 : (List Int)) (v5 : Int) : Option (LS ((List Int) × Int) ((List Int))) :=
 if v5 < v3 then
  if ¬ v0 = 0 then
   if (v4.length + 1) * 8 ≤ 140737488355328 then
    some (.nx ((v4 ++ [(Int.tmod (IntKind.i64.wrap (v2 + v5)) v0)]),(IntKind.i64.wrap (v5 + (1 : Int)))))
   else
    none
  else
   none
 else
 some (.dn v4)
def ik (v0 : Int) (v1 : ac) (v2 : Int) (v3 : Int) (v4 : (List Int)) (v5 : Int) : Option ((List Int)) := qb (fun st => df v0 v1 v2 v3 st.1 st.2) (v4,v5)
theorem xz (v0 : Int) (v1 : ac) (v2 : Int) (v3 : Int) (v4 : (List Int)) (v5 : Int) : ik v0 v1 v2 v3 v4 v5 = df v0 v1 v2 v3 v4 v5 >>= LS.go (fun st => ik v0 v1 v2 v3 st.1 st.2) := ig (fun st => df v0 v1 v2 v3 st.1 st.2) (v4,v5)
def m9 (v0 : Int) (v1 : ac) (v2 : Int) (v3 : Int) (v4 : (List Int)) (v5 : Int) (r : (List Int)) : Prop := ∀ (τ : TH) (o0 : Nat) (n0 : Nat) (ty0 : TypeId) (hnn0 : n0 = v4.length) (hty0 : n0 = 0 ∨ ty0 = de) (hl : τ.lock ≤ τ.next) (ha0 : τ.at o0 = some ⟨a9,[.str v1.ID,.sl (List.map af.tv v1.Parties),.sl (List.map aa.tv v1.Arcs),.sl (List.map (TV.int .i64) v1.Leaders),.sl (List.map TV.str v1.Locks),.int .i64 v1.Start,.int .i64 v1.Delta]⟩) (hi0 : o0 < τ.next) (Q : TEx → aq) (hQ0 : ∀ (fr : TF) (tk2 : TK) (τ2 : TH),∀ (u0 : TypeId),(r.length = 0 ∨ u0 = de) → lkp fr 7 = .int .i64 v0 → lkp fr 8 = .ptr o0 0 → lkp fr 9 = .int .i64 v2 → lkp fr 10 = .int .i64 v3 → lkp fr 11 = .sla 0 (List.map (TV.int .i64) r) → tk2.take 1 = [some (r.length,u0)] → τ2.cut τ.next = τ → Q (.exit 0) fr tk2 τ2) ,tW G (.loop [7,8,9,10,11,12] qw) Q [(7,.int .i64 v0),(8,.ptr o0 0),(9,.int .i64 v2),(10,.int .i64 v3),(11,.sla 0 (List.map (TV.int .i64) v4)),(12,.int .i64 v5)] [some (n0,ty0)] τ
set_option maxRecDepth 100000 in
set_option maxHeartbeats 4000000 in
theorem zcsj (v0 : Int) (v1 : ac) (v2 : Int) (v3 : Int) (v4 : (List Int)) (v5 : Int) (r : (List Int)) (h : ik v0 v1 v2 v3 v4 v5 = some r) : m9 v0 v1 v2 v3 v4 v5 r := by
 refine fh (f := fun st => df v0 v1 v2 v3 st.1 st.2) (P := fun st r => ∀ (v4 : (List Int)) (v5 : Int),(v4,v5) = st → m9 v0 v1 v2 v3 v4 v5 r) ?_ h v4 v5 rfl
 clear h r v5 v4
 intro st o h r ih v4 v5 hst τ o0  n0 ty0 hnn0 hty0 hl ha0 hi0 Q hQ0
 subst hst
 have h : df v0 v1 v2 v3 v4 v5 = some o := h
 unfold df at h
 subst hnn0
 refine nv fun LQ hn hr he => ?_
 by_cases c1 : v5 < v3
 · rw [if_pos c1] at h
   obtain ⟨c2,h⟩ := ifS h
   obtain ⟨c3,h⟩ := ifS h
   have f4 : 1 ≤ maxLen := by unfold maxLen; omega
   have f5 : v4.length + 1 ≤ maxLen := by unfold maxLen; omega
   have f6 : ((List.map (TV.int .i64) v4).all fun e => e.cells.length == 1) = true := zbbh (fun _ => rfl) _
   have f7 : List.map (TV.int .i64) v4 ++ List.map (TV.int .i64) [(Int.tmod (IntKind.i64.wrap (v2 + v5)) v0)] = List.map (TV.int .i64) (v4 ++ [(Int.tmod (IntKind.i64.wrap (v2 + v5)) v0)]) := zbjb _ _
   try simp only [CL,List.map_cons,List.map_nil] at f7
   injection h with h; subst h
   have ih := ih (v4 ++ [(Int.tmod (IntKind.i64.wrap (v2 + v5)) v0)]) (IntKind.i64.wrap (v5 + (1 : Int))) rfl
   unfold m9 at ih
   simp only [lkp.eq_1,↓cp,jm,jl,jj,ji,List.isEmpty_cons,ee,cw,tSg,tT,tS,tD,pnT,be,gu,pnK,jz,gg,List.filter_cons,List.filter_nil,List.filterMap_cons,List.filterMap_nil,bb,dd,lm,cy,Ins.dsts,Ins.looks,I.ops,o6,pn,List.all_cons,List.all_nil,List.any_cons,List.any_nil,List.contains_cons,List.contains_nil,List.append_nil,List.nil_append,List.cons_append,Option.toList_some,Option.toList_none,Option.isSome_some,Option.isSome_none,Bool.and_true,Bool.true_and,Bool.and_false,Bool.false_and,Bool.or_false,Bool.false_or,Bool.or_true,Bool.true_or,Bool.not_false,Bool.not_true,and_true,true_and,and_false,false_and,Nat.reduceBEq,bne_iff_ne,qw,ek,TT,Ic.t,ci,reduceEqDiff,reduceIte,reduceAdd,reduceMul,reduceLT,reduceLeDiff,reduceSub,reduceCtorEq,reduceEq,reduceNe,reduceToNat,Int.reduceLT,reduceLE,reduceNeg,hl,ha0,hi0,hty0,c1,c2,c3,f4,f5,f6,f7,CL,LTN]
   rw [hn]
   simp only [TT,Ic.t,ci,reduceEqDiff,reduceIte,reduceAdd,reduceMul,reduceLT,reduceLeDiff,reduceSub,reduceCtorEq,reduceEq,reduceNe,reduceToNat,Int.reduceLT,reduceLE,reduceNeg,hl,ha0,hi0,hty0,c1,c2,c3,f4,f5,f6,f7,CL,LTN]
   exact ih  τ o0  (v4.length + 1) de (by first | rfl | simp [ar]) (by first | exact hty0 | exact Or.inr rfl | assumption | simp) (by first | assumption | (simp only [ag,ah]; assumption)) (by simp only [TT,Ic.t,ci,reduceEqDiff,reduceIte,reduceAdd,reduceMul,reduceLT,reduceLeDiff,reduceSub,reduceCtorEq,reduceEq,reduceNe,reduceToNat,Int.reduceLT,reduceLE,reduceNeg,hl,ha0,hi0,hty0,c1,c2,c3,f4,f5,f6,f7,CL,LTN]) (by first | assumption | (simp only [ag,ah]; assumption)) Q hQ0
 rw [if_neg c1] at h
 injection h with h; subst h
 obtain rfl : _ = r := ih
 simp only [lkp.eq_1,↓cp,jm,jl,jj,ji,List.isEmpty_cons,ee,cw,tSg,tT,tS,tD,pnT,be,gu,pnK,jz,gg,List.filter_cons,List.filter_nil,List.filterMap_cons,List.filterMap_nil,bb,dd,lm,cy,Ins.dsts,Ins.looks,I.ops,o6,pn,List.all_cons,List.all_nil,List.any_cons,List.any_nil,List.contains_cons,List.contains_nil,List.append_nil,List.nil_append,List.cons_append,Option.toList_some,Option.toList_none,Option.isSome_some,Option.isSome_none,Bool.and_true,Bool.true_and,Bool.and_false,Bool.false_and,Bool.or_false,Bool.false_or,Bool.or_true,Bool.true_or,Bool.not_false,Bool.not_true,and_true,true_and,and_false,false_and,Nat.reduceBEq,bne_iff_ne,qw,ek,TT,Ic.t,ci,reduceEqDiff,reduceIte,reduceAdd,reduceMul,reduceLT,reduceLeDiff,reduceSub,reduceCtorEq,reduceEq,reduceNe,reduceToNat,Int.reduceLT,reduceLE,reduceNeg,hl,ha0,hi0,hty0,he,hr,c1,CL,LTN]
 exact hQ0  _ _ _ ty0 (by first | exact hty0 | exact Or.inr rfl | assumption | simp) (by first | rfl | (simp only [TT,Ic.t,ci,reduceEqDiff,reduceIte,reduceAdd,reduceMul,reduceLT,reduceLeDiff,reduceSub,reduceCtorEq,reduceEq,reduceNe,reduceToNat,Int.reduceLT,reduceLE,reduceNeg,hl,ha0,hi0,hty0,c1,CL,LTN])) (by first | rfl | (simp only [TT,Ic.t,ci,reduceEqDiff,reduceIte,reduceAdd,reduceMul,reduceLT,reduceLeDiff,reduceSub,reduceCtorEq,reduceEq,reduceNe,reduceToNat,Int.reduceLT,reduceLE,reduceNeg,hl,ha0,hi0,hty0,c1,CL,LTN])) (by first | rfl | (simp only [TT,Ic.t,ci,reduceEqDiff,reduceIte,reduceAdd,reduceMul,reduceLT,reduceLeDiff,reduceSub,reduceCtorEq,reduceEq,reduceNe,reduceToNat,Int.reduceLT,reduceLE,reduceNeg,hl,ha0,hi0,hty0,c1,CL,LTN])) (by first | rfl | (simp only [TT,Ic.t,ci,reduceEqDiff,reduceIte,reduceAdd,reduceMul,reduceLT,reduceLeDiff,reduceSub,reduceCtorEq,reduceEq,reduceNe,reduceToNat,Int.reduceLT,reduceLE,reduceNeg,hl,ha0,hi0,hty0,c1,CL,LTN])) (by first | rfl | (simp only [TT,Ic.t,ci,reduceEqDiff,reduceIte,reduceAdd,reduceMul,reduceLT,reduceLeDiff,reduceSub,reduceCtorEq,reduceEq,reduceNe,reduceToNat,Int.reduceLT,reduceLE,reduceNeg,hl,ha0,hi0,hty0,c1,CL,LTN])) (by first | rfl | (simp only [TT,Ic.t,ci,reduceEqDiff,reduceIte,reduceAdd,reduceMul,reduceLT,reduceLeDiff,reduceSub,reduceCtorEq,reduceEq,reduceNe,reduceToNat,Int.reduceLT,reduceLE,reduceNeg,hl,ha0,hi0,hty0,c1,CL,LTN])) (by first | exact jf (Nat.le_refl _) | (simp only [TT,Ic.t,ci,reduceEqDiff,reduceIte,reduceAdd,reduceMul,reduceLT,reduceLeDiff,reduceSub,reduceCtorEq,reduceEq,reduceNe,reduceToNat,Int.reduceLT,reduceLE,reduceNeg,hl,ha0,hi0,hty0,c1,CL,LTN]))
def ql (p1 : Int) (p2 : Int) (p3 : Int) : Option Bool :=
 qm p1 (5 : Int) >>= fun y1 =>
 zj (IntKind.i64.wrap ((2 : Int) + y1)) (5 : Int) (6 : Int) >>= fun y3 =>
 qm p2 (IntKind.i64.wrap ((2 : Int) + y1)) >>= fun y5 =>
 qm p3 (IntKind.i64.wrap ((2 : Int) + y1)) >>= fun y7 =>
 ik (IntKind.i64.wrap ((2 : Int) + y1)) y3 y5 (IntKind.i64.wrap ((1 : Int) + y7)) [] (0 : Int) >>= fun y9 =>
 if ¬ y3.Arcs = [] then
  if 0 ≤ (1 : Int) ∧ (1 : Int) ≤ (y3.Arcs.length : Int) then
   iq y3 y9 >>= fun y16 =>
   if y16 = true then
    ixL y9 (0 : Int) >>= fun y19 =>
    if y9.length * 8 ≤ 140737488355328 then
     if (y9.length + 1) * 8 ≤ 140737488355328 then
      iq y3 (y9 ++ [y19]) >>= fun y30 =>
      if y30 = true then
       some false
      else
      if ¬ (IntKind.i64.wrap ((2 : Int) + y1)) = 0 then
       iq y3 (y9 ++ [(Int.tmod (IntKind.i64.wrap (y5 + (IntKind.i64.wrap ((1 : Int) + y7)))) (IntKind.i64.wrap ((2 : Int) + y1)))]) >>= fun y41 =>
       if (y41 == (decide ((IntKind.i64.wrap ((1 : Int) + y7)) < (IntKind.i64.wrap ((2 : Int) + y1))))) = true then
        iq y3 [] >>= fun y44 =>
        if y44 = true then
         some false
        else
        iq y3 [(-1 : Int)] >>= fun y47 =>
        if y47 = true then
         some false
        else
        my (⟨y3.ID,y3.Parties,(y3.Arcs.drop 1),y3.Leaders,y3.Locks,y3.Start,y3.Delta⟩ : ac) >>= fun y50 =>
        if y50 = true then
         some false
        else
        j8 (⟨y3.ID,y3.Parties,(y3.Arcs.drop 1),y3.Leaders,y3.Locks,y3.Start,y3.Delta⟩ : ac) >>= fun y53 =>
        if y53 = true then
         xf >>= fun y56 =>
         some y56
        else
        some false
       else
       some false
      else
       none
     else
      none
    else
     none
   else
   some false
  else
   none
 else
  none
set_option maxRecDepth 100000 in
set_option maxHeartbeats 4000000 in
theorem xg (p1 : Int) (p2 : Int) (p3 : Int) (r : Bool) (h : ql p1 p2 p3 = some r) (τ : TH) (hl : τ.lock ≤ τ.next) : Ru G nu [.int .i64 p1,.int .i64 p2,.int .i64 p3] τ (.bool r) τ := by
 refine li fun K hK => ?_
 rw [ce zcrb (Nat.le_of_ble_eq_true rfl)]
 unfold ql at h
 obtain ⟨y1,hy1,h⟩ := ob h
 have k2 := zb1l p1 (5 : Int) _ hy1
 try simp only [CL,MC,reduceToNat] at k2
 obtain ⟨y3,hy3,h⟩ := ob h
 have k4 := zb9y (IntKind.i64.wrap ((2 : Int) + y1)) (5 : Int) (6 : Int) _ hy3
 try simp only [CL,MC,reduceToNat] at k4
 obtain ⟨y5,hy5,h⟩ := ob h
 have k6 := zb1l p2 (IntKind.i64.wrap ((2 : Int) + y1)) _ hy5
 try simp only [CL,MC,reduceToNat] at k6
 obtain ⟨y7,hy7,h⟩ := ob h
 have k8 := zb1l p3 (IntKind.i64.wrap ((2 : Int) + y1)) _ hy7
 try simp only [CL,MC,reduceToNat] at k8
 obtain ⟨y9,hy9,h⟩ := ob h
 simp only [lkp.eq_1,↓cp,jm,jl,jj,ji,List.isEmpty_cons,ee,cw,tSg,tT,tS,tD,pnT,be,gu,pnK,jz,gg,List.filter_cons,List.filter_nil,List.filterMap_cons,List.filterMap_nil,bb,dd,lm,cy,Ins.dsts,Ins.looks,I.ops,o6,pn,List.all_cons,List.all_nil,List.any_cons,List.any_nil,List.contains_cons,List.contains_nil,List.append_nil,List.nil_append,List.cons_append,Option.toList_some,Option.toList_none,Option.isSome_some,Option.isSome_none,Bool.and_true,Bool.true_and,Bool.and_false,Bool.false_and,Bool.or_false,Bool.false_or,Bool.or_true,Bool.true_or,Bool.not_false,Bool.not_true,and_true,true_and,and_false,false_and,Nat.reduceBEq,bne_iff_ne,ek,TT,Ic.t,ci,reduceEqDiff,reduceIte,reduceAdd,reduceMul,reduceLT,reduceLeDiff,reduceSub,reduceCtorEq,reduceEq,reduceNe,reduceToNat,Int.reduceLT,reduceLE,reduceNeg,hl,k2,k4,k6,k8,CL,LTN]
 have Sy9 := zcsj (IntKind.i64.wrap ((2 : Int) + y1)) y3 y5 (IntKind.i64.wrap ((1 : Int) + y7)) [] (0 : Int) y9 hy9
 unfold m9 at Sy9
 refine Sy9 _ τ.next 0 0 (by first | rfl | simp [ar]) (by first | exact Or.inl rfl | exact Or.inr rfl | assumption | simp) (by first | assumption | omega | (simp only [ag,am,ah,az]; omega)) (by simp only [TT,Ic.t,ci,reduceEqDiff,reduceIte,reduceAdd,reduceMul,reduceLT,reduceLeDiff,reduceSub,reduceCtorEq,reduceEq,reduceNe,reduceToNat,Int.reduceLT,reduceLE,reduceNeg,hl,k2,k4,k6,k8,CL,LTN]) (by first | assumption | omega | (simp only [ag,am,ah,az]; omega)) _ ?_
 intro frq10 tkq10 τq10 u0q10 uh0q10 g7q10 g8q10 g9q10 g10q10 g11q10 htq10 hcq10
 have hcq10 := eq (n := τ.next + 1) hcq10 (by first | omega | (simp only [ag,am]; omega))
 try simp only [List.take_succ_cons,List.take_zero,List.take_nil,CL] at htq10
 try simp only [TT,Ic.t,ci,reduceEqDiff,reduceIte,reduceAdd,reduceMul,reduceLT,reduceLeDiff,reduceSub,reduceCtorEq,reduceEq,reduceNe,reduceToNat,Int.reduceLT,reduceLE,reduceNeg,hl,k2,k4,k6,k8,CL,LTN] at hcq10
 obtain ⟨c11,h⟩ := ifS h
 obtain ⟨c12,h⟩ := ifS h
 have f13 : ((List.map aa.tv y3.Arcs).all fun e => e.cells.length == 5) = true := zbbh (fun _ => rfl) _
 have f14 : (!(List.map aa.tv y3.Arcs).isEmpty) = true := zcob c11
 have f15 : ((List.map aa.tv y3.Arcs).take y3.Arcs.length).drop 1 = List.map aa.tv (y3.Arcs.drop 1) := by rw [List.take_of_length_le (by simp),List.map_drop]
 obtain ⟨y16,hy16,h⟩ := ob h
 have k17 := mz y3 y9 _ hy16
 try simp only [CL,MC,reduceToNat] at k17
 by_cases c18 : y16 = true
 · rw [if_pos c18] at h
   obtain ⟨y19,hy19,h⟩ := ob h
   have f20 := bx hy19
   have f20a := (f20.2.2 (TV.int .i64)).1
   have f20b := (f20.2.2 (TV.int .i64)).2
   try simp only [CL,MC,reduceToNat] at f20 f20a f20b
   obtain ⟨c21,h⟩ := ifS h
   have f22 : ((List.map (TV.int .i64) y9).all fun e => e.cells.length == 1 && e.pure) = true := zcod (fun _ => rfl) _
   have f23 : y9.length ≤ maxLen := by unfold maxLen; omega
   have f24 : y9.length * 8 ≤ 140737488355328 := by omega
   obtain ⟨c25,h⟩ := ifS h
   have f26 : 1 ≤ maxLen := by unfold maxLen; omega
   have f27 : y9.length + 1 ≤ maxLen := by unfold maxLen; omega
   have f28 : ((List.map (TV.int .i64) y9).all fun e => e.cells.length == 1) = true := zbbh (fun _ => rfl) _
   have f29 : List.map (TV.int .i64) y9 ++ List.map (TV.int .i64) [y19] = List.map (TV.int .i64) (y9 ++ [y19]) := zbjb _ _
   try simp only [CL,List.map_cons,List.map_nil] at f29
   obtain ⟨y30,hy30,h⟩ := ob h
   have k31 := mz y3 (y9 ++ [y19]) _ hy30
   try simp only [CL,MC,reduceToNat] at k31
   by_cases c32 : y30 = true
   · rw [if_pos c32] at h
     injection h with h; subst h
     simp only [lkp.eq_1,↓cp,jm,jl,jj,ji,List.isEmpty_cons,ee,cw,tSg,tT,tS,tD,pnT,be,gu,pnK,jz,gg,List.filter_cons,List.filter_nil,List.filterMap_cons,List.filterMap_nil,bb,dd,lm,cy,Ins.dsts,Ins.looks,I.ops,o6,pn,List.all_cons,List.all_nil,List.any_cons,List.any_nil,List.contains_cons,List.contains_nil,List.append_nil,List.nil_append,List.cons_append,Option.toList_some,Option.toList_none,Option.isSome_some,Option.isSome_none,Bool.and_true,Bool.true_and,Bool.and_false,Bool.false_and,Bool.or_false,Bool.false_or,Bool.or_true,Bool.true_or,Bool.not_false,Bool.not_true,and_true,true_and,and_false,false_and,Nat.reduceBEq,bne_iff_ne,ek,TT,Ic.t,ci,reduceEqDiff,reduceIte,reduceAdd,reduceMul,reduceLT,reduceLeDiff,reduceSub,reduceCtorEq,reduceEq,reduceNe,reduceToNat,Int.reduceLT,reduceLE,reduceNeg,hl,k2,k4,k6,k8,uh0q10,g7q10,g8q10,g9q10,g10q10,g11q10,htq10,hcq10,c12,f13,f14,f15,k17,c18,f20.1,f20.2.1,f20a,f20b,c21,f22,f23,f24,c25,f26,f27,f28,f29,k31,c32,CL,LTN]
     first | exact hK | (simp only [hl,k2,k4,k6,k8,uh0q10,g7q10,g8q10,g9q10,g10q10,g11q10,htq10,hcq10,c12,f13,f14,f15,k17,c18,f20.1,f20.2.1,f20a,f20b,c21,f22,f23,f24,c25,f26,f27,f28,f29,k31,c32,CL] at hK; exact hK)
   rw [if_neg c32] at h
   have c32 := Bool.eq_false_iff.2 c32
   obtain ⟨c33,h⟩ := ifS h
   have f34 : ((List.map (TV.int .i64) y9).all fun e => e.cells.length == 1 && e.pure) = true := zcod (fun _ => rfl) _
   have f35 : y9.length ≤ maxLen := by unfold maxLen; omega
   have f36 : y9.length * 8 ≤ 140737488355328 := by omega
   have f37 : 1 ≤ maxLen := by unfold maxLen; omega
   have f38 : y9.length + 1 ≤ maxLen := by unfold maxLen; omega
   have f39 : ((List.map (TV.int .i64) y9).all fun e => e.cells.length == 1) = true := zbbh (fun _ => rfl) _
   have f40 : List.map (TV.int .i64) y9 ++ List.map (TV.int .i64) [(Int.tmod (IntKind.i64.wrap (y5 + (IntKind.i64.wrap ((1 : Int) + y7)))) (IntKind.i64.wrap ((2 : Int) + y1)))] = List.map (TV.int .i64) (y9 ++ [(Int.tmod (IntKind.i64.wrap (y5 + (IntKind.i64.wrap ((1 : Int) + y7)))) (IntKind.i64.wrap ((2 : Int) + y1)))]) := zbjb _ _
   try simp only [CL,List.map_cons,List.map_nil] at f40
   obtain ⟨y41,hy41,h⟩ := ob h
   have k42 := mz y3 (y9 ++ [(Int.tmod (IntKind.i64.wrap (y5 + (IntKind.i64.wrap ((1 : Int) + y7)))) (IntKind.i64.wrap ((2 : Int) + y1)))]) _ hy41
   try simp only [CL,MC,reduceToNat] at k42
   by_cases c43 : (y41 == (decide ((IntKind.i64.wrap ((1 : Int) + y7)) < (IntKind.i64.wrap ((2 : Int) + y1))))) = true
   · rw [if_pos c43] at h
     obtain ⟨y44,hy44,h⟩ := ob h
     have k45 := mz y3 [] _ hy44
     try simp only [CL,MC,reduceToNat] at k45
     by_cases c46 : y44 = true
     · rw [if_pos c46] at h
       injection h with h; subst h
       simp only [lkp.eq_1,↓cp,jm,jl,jj,ji,List.isEmpty_cons,ee,cw,tSg,tT,tS,tD,pnT,be,gu,pnK,jz,gg,List.filter_cons,List.filter_nil,List.filterMap_cons,List.filterMap_nil,bb,dd,lm,cy,Ins.dsts,Ins.looks,I.ops,o6,pn,List.all_cons,List.all_nil,List.any_cons,List.any_nil,List.contains_cons,List.contains_nil,List.append_nil,List.nil_append,List.cons_append,Option.toList_some,Option.toList_none,Option.isSome_some,Option.isSome_none,Bool.and_true,Bool.true_and,Bool.and_false,Bool.false_and,Bool.or_false,Bool.false_or,Bool.or_true,Bool.true_or,Bool.not_false,Bool.not_true,and_true,true_and,and_false,false_and,Nat.reduceBEq,bne_iff_ne,ek,TT,Ic.t,ci,reduceEqDiff,reduceIte,reduceAdd,reduceMul,reduceLT,reduceLeDiff,reduceSub,reduceCtorEq,reduceEq,reduceNe,reduceToNat,Int.reduceLT,reduceLE,reduceNeg,hl,k2,k4,k6,k8,uh0q10,g7q10,g8q10,g9q10,g10q10,g11q10,htq10,hcq10,c12,f13,f14,f15,k17,c18,f20.1,f20.2.1,f20a,f20b,c21,f22,f23,f24,c25,f26,f27,f28,f29,k31,c32,c33,f34,f35,f36,f37,f38,f39,f40,k42,c43,k45,c46,CL,LTN]
       first | exact hK | (simp only [hl,k2,k4,k6,k8,uh0q10,g7q10,g8q10,g9q10,g10q10,g11q10,htq10,hcq10,c12,f13,f14,f15,k17,c18,f20.1,f20.2.1,f20a,f20b,c21,f22,f23,f24,c25,f26,f27,f28,f29,k31,c32,c33,f34,f35,f36,f37,f38,f39,f40,k42,c43,k45,c46,CL] at hK; exact hK)
     rw [if_neg c46] at h
     have c46 := Bool.eq_false_iff.2 c46
     obtain ⟨y47,hy47,h⟩ := ob h
     have k48 := mz y3 [(-1 : Int)] _ hy47
     try simp only [CL,MC,reduceToNat] at k48
     by_cases c49 : y47 = true
     · rw [if_pos c49] at h
       injection h with h; subst h
       simp only [lkp.eq_1,↓cp,jm,jl,jj,ji,List.isEmpty_cons,ee,cw,tSg,tT,tS,tD,pnT,be,gu,pnK,jz,gg,List.filter_cons,List.filter_nil,List.filterMap_cons,List.filterMap_nil,bb,dd,lm,cy,Ins.dsts,Ins.looks,I.ops,o6,pn,List.all_cons,List.all_nil,List.any_cons,List.any_nil,List.contains_cons,List.contains_nil,List.append_nil,List.nil_append,List.cons_append,Option.toList_some,Option.toList_none,Option.isSome_some,Option.isSome_none,Bool.and_true,Bool.true_and,Bool.and_false,Bool.false_and,Bool.or_false,Bool.false_or,Bool.or_true,Bool.true_or,Bool.not_false,Bool.not_true,and_true,true_and,and_false,false_and,Nat.reduceBEq,bne_iff_ne,ek,TT,Ic.t,ci,reduceEqDiff,reduceIte,reduceAdd,reduceMul,reduceLT,reduceLeDiff,reduceSub,reduceCtorEq,reduceEq,reduceNe,reduceToNat,Int.reduceLT,reduceLE,reduceNeg,hl,k2,k4,k6,k8,uh0q10,g7q10,g8q10,g9q10,g10q10,g11q10,htq10,hcq10,c12,f13,f14,f15,k17,c18,f20.1,f20.2.1,f20a,f20b,c21,f22,f23,f24,c25,f26,f27,f28,f29,k31,c32,c33,f34,f35,f36,f37,f38,f39,f40,k42,c43,k45,c46,k48,c49,CL,LTN]
       first | exact hK | (simp only [hl,k2,k4,k6,k8,uh0q10,g7q10,g8q10,g9q10,g10q10,g11q10,htq10,hcq10,c12,f13,f14,f15,k17,c18,f20.1,f20.2.1,f20a,f20b,c21,f22,f23,f24,c25,f26,f27,f28,f29,k31,c32,c33,f34,f35,f36,f37,f38,f39,f40,k42,c43,k45,c46,k48,c49,CL] at hK; exact hK)
     rw [if_neg c49] at h
     have c49 := Bool.eq_false_iff.2 c49
     obtain ⟨y50,hy50,h⟩ := ob h
     have k51 := zcfz (⟨y3.ID,y3.Parties,(y3.Arcs.drop 1),y3.Leaders,y3.Locks,y3.Start,y3.Delta⟩ : ac) _ hy50
     try simp only [CL,MC,reduceToNat] at k51
     by_cases c52 : y50 = true
     · rw [if_pos c52] at h
       injection h with h; subst h
       simp only [lkp.eq_1,↓cp,jm,jl,jj,ji,List.isEmpty_cons,ee,cw,tSg,tT,tS,tD,pnT,be,gu,pnK,jz,gg,List.filter_cons,List.filter_nil,List.filterMap_cons,List.filterMap_nil,bb,dd,lm,cy,Ins.dsts,Ins.looks,I.ops,o6,pn,List.all_cons,List.all_nil,List.any_cons,List.any_nil,List.contains_cons,List.contains_nil,List.append_nil,List.nil_append,List.cons_append,Option.toList_some,Option.toList_none,Option.isSome_some,Option.isSome_none,Bool.and_true,Bool.true_and,Bool.and_false,Bool.false_and,Bool.or_false,Bool.false_or,Bool.or_true,Bool.true_or,Bool.not_false,Bool.not_true,and_true,true_and,and_false,false_and,Nat.reduceBEq,bne_iff_ne,ek,TT,Ic.t,ci,reduceEqDiff,reduceIte,reduceAdd,reduceMul,reduceLT,reduceLeDiff,reduceSub,reduceCtorEq,reduceEq,reduceNe,reduceToNat,Int.reduceLT,reduceLE,reduceNeg,hl,k2,k4,k6,k8,uh0q10,g7q10,g8q10,g9q10,g10q10,g11q10,htq10,hcq10,c12,f13,f14,f15,k17,c18,f20.1,f20.2.1,f20a,f20b,c21,f22,f23,f24,c25,f26,f27,f28,f29,k31,c32,c33,f34,f35,f36,f37,f38,f39,f40,k42,c43,k45,c46,k48,c49,k51,c52,CL,LTN]
       first | exact hK | (simp only [hl,k2,k4,k6,k8,uh0q10,g7q10,g8q10,g9q10,g10q10,g11q10,htq10,hcq10,c12,f13,f14,f15,k17,c18,f20.1,f20.2.1,f20a,f20b,c21,f22,f23,f24,c25,f26,f27,f28,f29,k31,c32,c33,f34,f35,f36,f37,f38,f39,f40,k42,c43,k45,c46,k48,c49,k51,c52,CL] at hK; exact hK)
     rw [if_neg c52] at h
     have c52 := Bool.eq_false_iff.2 c52
     obtain ⟨y53,hy53,h⟩ := ob h
     have k54 := zchf (⟨y3.ID,y3.Parties,(y3.Arcs.drop 1),y3.Leaders,y3.Locks,y3.Start,y3.Delta⟩ : ac) _ hy53
     try simp only [CL,MC,reduceToNat] at k54
     by_cases c55 : y53 = true
     · rw [if_pos c55] at h
       obtain ⟨y56,hy56,h⟩ := ob h
       have k57 := zcpg  _ hy56
       try simp only [CL,MC,reduceToNat] at k57
       injection h with h; subst h
       simp only [lkp.eq_1,↓cp,jm,jl,jj,ji,List.isEmpty_cons,ee,cw,tSg,tT,tS,tD,pnT,be,gu,pnK,jz,gg,List.filter_cons,List.filter_nil,List.filterMap_cons,List.filterMap_nil,bb,dd,lm,cy,Ins.dsts,Ins.looks,I.ops,o6,pn,List.all_cons,List.all_nil,List.any_cons,List.any_nil,List.contains_cons,List.contains_nil,List.append_nil,List.nil_append,List.cons_append,Option.toList_some,Option.toList_none,Option.isSome_some,Option.isSome_none,Bool.and_true,Bool.true_and,Bool.and_false,Bool.false_and,Bool.or_false,Bool.false_or,Bool.or_true,Bool.true_or,Bool.not_false,Bool.not_true,and_true,true_and,and_false,false_and,Nat.reduceBEq,bne_iff_ne,ek,TT,Ic.t,ci,reduceEqDiff,reduceIte,reduceAdd,reduceMul,reduceLT,reduceLeDiff,reduceSub,reduceCtorEq,reduceEq,reduceNe,reduceToNat,Int.reduceLT,reduceLE,reduceNeg,hl,k2,k4,k6,k8,uh0q10,g7q10,g8q10,g9q10,g10q10,g11q10,htq10,hcq10,c12,f13,f14,f15,k17,c18,f20.1,f20.2.1,f20a,f20b,c21,f22,f23,f24,c25,f26,f27,f28,f29,k31,c32,c33,f34,f35,f36,f37,f38,f39,f40,k42,c43,k45,c46,k48,c49,k51,c52,k54,c55,k57,CL,LTN]
       first | exact hK | (simp only [hl,k2,k4,k6,k8,uh0q10,g7q10,g8q10,g9q10,g10q10,g11q10,htq10,hcq10,c12,f13,f14,f15,k17,c18,f20.1,f20.2.1,f20a,f20b,c21,f22,f23,f24,c25,f26,f27,f28,f29,k31,c32,c33,f34,f35,f36,f37,f38,f39,f40,k42,c43,k45,c46,k48,c49,k51,c52,k54,c55,k57,CL] at hK; exact hK)
     rw [if_neg c55] at h
     have c55 := Bool.eq_false_iff.2 c55
     injection h with h; subst h
     simp only [lkp.eq_1,↓cp,jm,jl,jj,ji,List.isEmpty_cons,ee,cw,tSg,tT,tS,tD,pnT,be,gu,pnK,jz,gg,List.filter_cons,List.filter_nil,List.filterMap_cons,List.filterMap_nil,bb,dd,lm,cy,Ins.dsts,Ins.looks,I.ops,o6,pn,List.all_cons,List.all_nil,List.any_cons,List.any_nil,List.contains_cons,List.contains_nil,List.append_nil,List.nil_append,List.cons_append,Option.toList_some,Option.toList_none,Option.isSome_some,Option.isSome_none,Bool.and_true,Bool.true_and,Bool.and_false,Bool.false_and,Bool.or_false,Bool.false_or,Bool.or_true,Bool.true_or,Bool.not_false,Bool.not_true,and_true,true_and,and_false,false_and,Nat.reduceBEq,bne_iff_ne,ek,TT,Ic.t,ci,reduceEqDiff,reduceIte,reduceAdd,reduceMul,reduceLT,reduceLeDiff,reduceSub,reduceCtorEq,reduceEq,reduceNe,reduceToNat,Int.reduceLT,reduceLE,reduceNeg,hl,k2,k4,k6,k8,uh0q10,g7q10,g8q10,g9q10,g10q10,g11q10,htq10,hcq10,c12,f13,f14,f15,k17,c18,f20.1,f20.2.1,f20a,f20b,c21,f22,f23,f24,c25,f26,f27,f28,f29,k31,c32,c33,f34,f35,f36,f37,f38,f39,f40,k42,c43,k45,c46,k48,c49,k51,c52,k54,c55,CL,LTN]
     first | exact hK | (simp only [hl,k2,k4,k6,k8,uh0q10,g7q10,g8q10,g9q10,g10q10,g11q10,htq10,hcq10,c12,f13,f14,f15,k17,c18,f20.1,f20.2.1,f20a,f20b,c21,f22,f23,f24,c25,f26,f27,f28,f29,k31,c32,c33,f34,f35,f36,f37,f38,f39,f40,k42,c43,k45,c46,k48,c49,k51,c52,k54,c55,CL] at hK; exact hK)
   rw [if_neg c43] at h
   have c43 := Bool.eq_false_iff.2 c43
   injection h with h; subst h
   simp only [lkp.eq_1,↓cp,jm,jl,jj,ji,List.isEmpty_cons,ee,cw,tSg,tT,tS,tD,pnT,be,gu,pnK,jz,gg,List.filter_cons,List.filter_nil,List.filterMap_cons,List.filterMap_nil,bb,dd,lm,cy,Ins.dsts,Ins.looks,I.ops,o6,pn,List.all_cons,List.all_nil,List.any_cons,List.any_nil,List.contains_cons,List.contains_nil,List.append_nil,List.nil_append,List.cons_append,Option.toList_some,Option.toList_none,Option.isSome_some,Option.isSome_none,Bool.and_true,Bool.true_and,Bool.and_false,Bool.false_and,Bool.or_false,Bool.false_or,Bool.or_true,Bool.true_or,Bool.not_false,Bool.not_true,and_true,true_and,and_false,false_and,Nat.reduceBEq,bne_iff_ne,ek,TT,Ic.t,ci,reduceEqDiff,reduceIte,reduceAdd,reduceMul,reduceLT,reduceLeDiff,reduceSub,reduceCtorEq,reduceEq,reduceNe,reduceToNat,Int.reduceLT,reduceLE,reduceNeg,hl,k2,k4,k6,k8,uh0q10,g7q10,g8q10,g9q10,g10q10,g11q10,htq10,hcq10,c12,f13,f14,f15,k17,c18,f20.1,f20.2.1,f20a,f20b,c21,f22,f23,f24,c25,f26,f27,f28,f29,k31,c32,c33,f34,f35,f36,f37,f38,f39,f40,k42,c43,CL,LTN]
   first | exact hK | (simp only [hl,k2,k4,k6,k8,uh0q10,g7q10,g8q10,g9q10,g10q10,g11q10,htq10,hcq10,c12,f13,f14,f15,k17,c18,f20.1,f20.2.1,f20a,f20b,c21,f22,f23,f24,c25,f26,f27,f28,f29,k31,c32,c33,f34,f35,f36,f37,f38,f39,f40,k42,c43,CL] at hK; exact hK)
 rw [if_neg c18] at h
 have c18 := Bool.eq_false_iff.2 c18
 injection h with h; subst h
 simp only [lkp.eq_1,↓cp,jm,jl,jj,ji,List.isEmpty_cons,ee,cw,tSg,tT,tS,tD,pnT,be,gu,pnK,jz,gg,List.filter_cons,List.filter_nil,List.filterMap_cons,List.filterMap_nil,bb,dd,lm,cy,Ins.dsts,Ins.looks,I.ops,o6,pn,List.all_cons,List.all_nil,List.any_cons,List.any_nil,List.contains_cons,List.contains_nil,List.append_nil,List.nil_append,List.cons_append,Option.toList_some,Option.toList_none,Option.isSome_some,Option.isSome_none,Bool.and_true,Bool.true_and,Bool.and_false,Bool.false_and,Bool.or_false,Bool.false_or,Bool.or_true,Bool.true_or,Bool.not_false,Bool.not_true,and_true,true_and,and_false,false_and,Nat.reduceBEq,bne_iff_ne,ek,TT,Ic.t,ci,reduceEqDiff,reduceIte,reduceAdd,reduceMul,reduceLT,reduceLeDiff,reduceSub,reduceCtorEq,reduceEq,reduceNe,reduceToNat,Int.reduceLT,reduceLE,reduceNeg,hl,k2,k4,k6,k8,uh0q10,g7q10,g8q10,g9q10,g10q10,g11q10,htq10,hcq10,c12,f13,f14,f15,k17,c18,CL,LTN]
 first | exact hK | (simp only [hl,k2,k4,k6,k8,uh0q10,g7q10,g8q10,g9q10,g10q10,g11q10,htq10,hcq10,c12,f13,f14,f15,k17,c18,CL] at hK; exact hK)
end
end Go.Proofs.Ytdcfoaafkppojaa
