import Derived.Test.YtdcfoaafkppojaaD7
set_option linter.unusedVariables false
set_option linter.unusedSimpArgs false
set_option linter.unusedSectionVars false
open Nat (reduceEqDiff reduceAdd reduceMul reduceLT reduceLeDiff reduceSub)
open Int (reduceToNat reduceNe reduceEq reduceNeg reduceLE)
namespace Go.Proofs.Ytdcfoaafkppojaa
open Go Go.RowKit Sh Ic
noncomputable section
def uf (p1 : aa) : Option Bool :=
 pn p1 >>= fun y1 =>
 if y1 = true then
  g9 p1 (0 : Int) >>= fun y4 =>
  match y4 with
  | .ex w5 =>
   some true
  | .rt w7 =>
   some w7
 else
 some false
theorem zcu8 (p1 : aa) (r : Bool) (h : uf p1 = some r) (τ : TH) (hl : τ.lock ≤ τ.next) : Ru G ut [.agg [.str p1.ID,.sl (List.map ag.tv p1.Parties),.sl (List.map ac.tv p1.Arcs),.sl (List.map (TV.int .i64) p1.Leaders),.sl (List.map TV.str p1.Locks),.int .i64 p1.Start,.int .i64 p1.Delta]] τ (.bool r) τ := by
 refine jv fun K hK => ?_
 rw [bh zdbu (Nat.le_of_ble_eq_true rfl)]
 unfold uf at h
 obtain ⟨y1,hy1,h⟩ := ob h
 have k2 := zb64 p1 _ hy1
 try simp only [CL,MC,reduceToNat] at k2
 by_cases c3 : y1 = true
 · rw [if_pos c3] at h
   obtain ⟨y4,hy4,h⟩ := ob h
   simp only [ku,TT,Ic.t,ci,reduceEqDiff,reduceAdd,reduceCtorEq,hl,k2,c3]
   have Sy4 := zdca p1 (0 : Int) y4 hy4
   unfold va at Sy4
   refine Sy4 _ τ.next (by simp only [aj,ap]; omega) (by simp only [TT]) (by simp only [aj]; omega) _ ?_ ?_
   · intro w5 e frq6 tkq6 τq6 htq6 hcq6
     subst e
     simp only at h
     have hcq6 := az (n := τ.next + 1) hcq6 (by simp only [aj]; omega)
     try simp only [List.take_zero] at htq6
     try simp only [TT] at hcq6
     injection h with h; subst h
     simp only [TT,hcq6]
     first | exact hK | (simp only [hl,k2,c3,htq6,hcq6,CL] at hK; exact hK)
   intro w7 e tkq8 τq8 hcq8
   subst e
   simp only at h
   have hcq8 := az (n := τ.next) hcq8 (by simp only [aj]; omega)
   try simp only [TT] at hcq8
   injection h with h; subst h
   simp only [TT,hcq8]
   first | exact hK | (simp only [hl,k2,c3,hcq8,CL] at hK; exact hK)
 rw [if_neg c3] at h
 have c3 := Bool.eq_false_iff.2 c3
 injection h with h; subst h
 simp only [ku,TT,Ic.t,ci,reduceEqDiff,reduceAdd,reduceCtorEq,hl,k2,c3]
 first | exact hK | (simp only [hl,k2,c3,CL] at hK; exact hK)
theorem zcu7 (p1 : aa) (r : Bool) (h : uf p1 = some r) (lk : Bool) (d : Option Nat) (K : au) (fr : TF) (tk : TK) (τ : TH) (hl : τ.lock ≤ τ.next) : eo G lk ut [.agg [.str p1.ID,.sl (List.map ag.tv p1.Parties),.sl (List.map ac.tv p1.Arcs),.sl (List.map (TV.int .i64) p1.Leaders),.sl (List.map TV.str p1.Locks),.int .i64 p1.Start,.int .i64 p1.Delta]] d K fr tk τ = K (fv fr d (.bool r)) tk τ :=
 av (zcu8 p1 r h τ hl) (zcu8 p1 r h (τ.locked τ.next) (Nat.le_refl _) ) (by simp only [TT])
def da (v0 : aa) (v1 : Int) : Option (LS (Int) (LX (Unit) (Bool))) :=
 if v1 < ((v0.Parties.length : Nat) : Int) then
  ue v0 v1 v1 v0.Leaders >>= fun y2 =>
  if y2 = true then
   some (.dn (.rt false))
  else
  some (.nx (IntKind.i64.wrap (v1 + (1 : Int))))
 else
 some (.dn (.ex ()))
def eh (v0 : aa) (v1 : Int) : Option (LX (Unit) (Bool)) := kx (fun st => da v0 st) v1
theorem wv (v0 : aa) (v1 : Int) : eh v0 v1 = da v0 v1 >>= LS.go (fun st => eh v0 st) := bu (fun st => da v0 st) v1
def qp (v0 : aa) (v1 : Int) (r : LX (Unit) (Bool)) : Prop := ∀ (τ : TH) (o0 : Nat) (hl : τ.lock ≤ τ.next) (ha0 : τ.at o0 = some ⟨am,[.str v0.ID,.sl (List.map ag.tv v0.Parties),.sl (List.map ac.tv v0.Arcs),.sl (List.map (TV.int .i64) v0.Leaders),.sl (List.map TV.str v0.Locks),.int .i64 v0.Start,.int .i64 v0.Delta]⟩) (hi0 : o0 < τ.next) (Q : TEx → au) (hQ0 : ∀ v : Unit,r = (.ex v) → ∀ (fr : TF) (tk2 : TK) (τ2 : TH),tk2.take 0 = [] → τ2.cut τ.next = τ → Q (.exit 0) fr tk2 τ2) (hQ1 : ∀ v : Bool,r = (.rt v) → ∀ (tk2 : TK) (τ2 : TH),τ2.cut τ.next = τ → Q .ret [(2,.bool v)] tk2 τ2) ,tW G (.loop [1,3] rg) Q [(1,.ptr o0 0),(3,.int .i64 v1)] [] τ
theorem zdc5 (v0 : aa) (v1 : Int) (r : LX (Unit) (Bool)) (h : eh v0 v1 = some r) : qp v0 v1 r := by
 refine bf (f := fun st => da v0 st) (P := fun st r => ∀ (v1 : Int),v1 = st → qp v0 v1 r) ?_ h v1 rfl
 clear h r v1
 intro st o h r ih v1 hst τ o0 hl ha0 hi0 Q hQ0 hQ1
 subst hst
 have h : da v0 v1 = some o := h
 unfold da at h
 refine jo fun LQ hn hr he => ?_
 by_cases c1 : v1 < ((v0.Parties.length : Nat) : Int)
 · rw [if_pos c1] at h
   obtain ⟨y2,hy2,h⟩ := ob h
   have k3 := zcse v0 v1 v1 v0.Leaders _ hy2
   try simp only [CL,MC,reduceToNat] at k3
   by_cases c4 : y2 = true
   · rw [if_pos c4] at h
     injection h with h; subst h
     obtain rfl : _ = r := ih
     simp only [rg,pf,TT,Ic.t,ci,reduceEqDiff,reduceAdd,reduceCtorEq,hl,ha0,hi0,he,hr,c1,k3,c4]
     exact hQ1 false rfl _ _ (by simp only [TT])
   rw [if_neg c4] at h
   have c4 := Bool.eq_false_iff.2 c4
   injection h with h; subst h
   have ih := ih (IntKind.i64.wrap (v1 + (1 : Int))) rfl
   unfold qp at ih
   simp only [rg,pf,TT,Ic.t,ci,reduceEqDiff,reduceAdd,reduceCtorEq,hl,ha0,hi0,c1,k3,c4]
   rw [hn]
   simp only [TT,reduceEqDiff,hi0]
   exact ih τ o0 (by assumption) (by simp only [ha0]) (by assumption) Q hQ0 hQ1
 rw [if_neg c1] at h
 injection h with h; subst h
 obtain rfl : _ = r := ih
 simp only [rg,pf,TT,Ic.t,ci,reduceEqDiff,reduceAdd,reduceCtorEq,ha0,he,c1]
 exact hQ0 () rfl _ _ _ (by rfl) (by simp only [TT])
def pk (p1 : aa) : Option Bool :=
 pn p1 >>= fun y1 =>
 if y1 = true then
  eh p1 (0 : Int) >>= fun y4 =>
  match y4 with
  | .ex w5 =>
   some true
  | .rt w7 =>
   some w7
 else
 some false
theorem zc0k (p1 : aa) (r : Bool) (h : pk p1 = some r) (τ : TH) (hl : τ.lock ≤ τ.next) : Ru G pp [.agg [.str p1.ID,.sl (List.map ag.tv p1.Parties),.sl (List.map ac.tv p1.Arcs),.sl (List.map (TV.int .i64) p1.Leaders),.sl (List.map TV.str p1.Locks),.int .i64 p1.Start,.int .i64 p1.Delta]] τ (.bool r) τ := by
 refine jv fun K hK => ?_
 rw [bh zdfq (Nat.le_of_ble_eq_true rfl)]
 unfold pk at h
 obtain ⟨y1,hy1,h⟩ := ob h
 have k2 := zb64 p1 _ hy1
 try simp only [CL,MC,reduceToNat] at k2
 by_cases c3 : y1 = true
 · rw [if_pos c3] at h
   obtain ⟨y4,hy4,h⟩ := ob h
   simp only [pf,TT,Ic.t,ci,reduceEqDiff,reduceAdd,reduceCtorEq,hl,k2,c3]
   have Sy4 := zdc5 p1 (0 : Int) y4 hy4
   unfold qp at Sy4
   refine Sy4 _ τ.next (by simp only [aj,ap]; omega) (by simp only [TT]) (by simp only [aj]; omega) _ ?_ ?_
   · intro w5 e frq6 tkq6 τq6 htq6 hcq6
     subst e
     simp only at h
     have hcq6 := az (n := τ.next + 1) hcq6 (by simp only [aj]; omega)
     try simp only [List.take_zero] at htq6
     try simp only [TT] at hcq6
     injection h with h; subst h
     simp only [TT,hcq6]
     first | exact hK | (simp only [hl,k2,c3,htq6,hcq6,CL] at hK; exact hK)
   intro w7 e tkq8 τq8 hcq8
   subst e
   simp only at h
   have hcq8 := az (n := τ.next) hcq8 (by simp only [aj]; omega)
   try simp only [TT] at hcq8
   injection h with h; subst h
   simp only [TT,hcq8]
   first | exact hK | (simp only [hl,k2,c3,hcq8,CL] at hK; exact hK)
 rw [if_neg c3] at h
 have c3 := Bool.eq_false_iff.2 c3
 injection h with h; subst h
 simp only [pf,TT,Ic.t,ci,reduceEqDiff,reduceAdd,reduceCtorEq,hl,k2,c3]
 first | exact hK | (simp only [hl,k2,c3,CL] at hK; exact hK)
theorem zc0j (p1 : aa) (r : Bool) (h : pk p1 = some r) (lk : Bool) (d : Option Nat) (K : au) (fr : TF) (tk : TK) (τ : TH) (hl : τ.lock ≤ τ.next) : eo G lk pp [.agg [.str p1.ID,.sl (List.map ag.tv p1.Parties),.sl (List.map ac.tv p1.Arcs),.sl (List.map (TV.int .i64) p1.Leaders),.sl (List.map TV.str p1.Locks),.int .i64 p1.Start,.int .i64 p1.Delta]] d K fr tk τ = K (fv fr d (.bool r)) tk τ :=
 av (zc0k p1 r h τ hl) (zc0k p1 r h (τ.locked τ.next) (Nat.le_refl _) ) (by simp only [TT])
def zb5o (p1 : aa) : Option Bool :=
 uf p1 >>= fun y1 =>
 if y1 = true then
  pk p1 >>= fun y4 =>
  some y4
 else
 some false
theorem zcsd (p1 : aa) (r : Bool) (h : zb5o p1 = some r) (τ : TH) (hl : τ.lock ≤ τ.next) : Ru G zb5k [.agg [.str p1.ID,.sl (List.map ag.tv p1.Parties),.sl (List.map ac.tv p1.Arcs),.sl (List.map (TV.int .i64) p1.Leaders),.sl (List.map TV.str p1.Locks),.int .i64 p1.Start,.int .i64 p1.Delta]] τ (.bool r) τ := by
 refine jv fun K hK => ?_
 rw [bh zdag (Nat.le_of_ble_eq_true rfl)]
 unfold zb5o at h
 obtain ⟨y1,hy1,h⟩ := ob h
 have k2 := zcu7 p1 _ hy1
 try simp only [CL,MC,reduceToNat] at k2
 by_cases c3 : y1 = true
 · rw [if_pos c3] at h
   obtain ⟨y4,hy4,h⟩ := ob h
   have k5 := zc0j p1 _ hy4
   try simp only [CL,MC,reduceToNat] at k5
   injection h with h; subst h
   simp only [zc7d,TT,Ic.t,reduceEqDiff,reduceAdd,reduceCtorEq,hl,k2,c3,k5]
   first | exact hK | (simp only [hl,k2,c3,k5,CL] at hK; exact hK)
 rw [if_neg c3] at h
 have c3 := Bool.eq_false_iff.2 c3
 injection h with h; subst h
 simp only [zc7d,TT,Ic.t,reduceEqDiff,reduceAdd,reduceCtorEq,hl,k2,c3]
 first | exact hK | (simp only [hl,k2,c3,CL] at hK; exact hK)
theorem zdeq (p1 : aa) (r : Bool) (h : zb5o p1 = some r) (lk : Bool) (d : Option Nat) (K : au) (fr : TF) (tk : TK) (τ : TH) (hl : τ.lock ≤ τ.next) : eo G lk zb5k [.agg [.str p1.ID,.sl (List.map ag.tv p1.Parties),.sl (List.map ac.tv p1.Arcs),.sl (List.map (TV.int .i64) p1.Leaders),.sl (List.map TV.str p1.Locks),.int .i64 p1.Start,.int .i64 p1.Delta]] d K fr tk τ = K (fv fr d (.bool r)) tk τ :=
 av (zcsd p1 r h τ hl) (zcsd p1 r h (τ.locked τ.next) (Nat.le_refl _) ) (by simp only [TT])
def jw (v0 : Int) (v1 : Int) (v2 : aa) (v3 : Int) : Option (LS (Int) (LX (Unit) (Bool))) :=
 if v3 < ((v2.Arcs.length : Nat) : Int) then
  ixL v2.Arcs v3 >>= fun y2 =>
  if y2.From = v0 then
   if y2.To = v1 then
    some (.dn (.rt true))
   else
   some (.nx (IntKind.i64.wrap (v3 + (1 : Int))))
  else
  some (.nx (IntKind.i64.wrap (v3 + (1 : Int))))
 else
 some (.dn (.ex ()))
def qe (v0 : Int) (v1 : Int) (v2 : aa) (v3 : Int) : Option (LX (Unit) (Bool)) := kx (fun st => jw v0 v1 v2 st) v3
theorem zcxx (v0 : Int) (v1 : Int) (v2 : aa) (v3 : Int) : qe v0 v1 v2 v3 = jw v0 v1 v2 v3 >>= LS.go (fun st => qe v0 v1 v2 st) := bu (fun st => jw v0 v1 v2 st) v3
def xf (v0 : Int) (v1 : Int) (v2 : aa) (v3 : Int) (r : LX (Unit) (Bool)) : Prop := ∀ (τ : TH) (o0 : Nat) (hl : τ.lock ≤ τ.next) (ha0 : τ.at o0 = some ⟨am,[.str v2.ID,.sl (List.map ag.tv v2.Parties),.sl (List.map ac.tv v2.Arcs),.sl (List.map (TV.int .i64) v2.Leaders),.sl (List.map TV.str v2.Locks),.int .i64 v2.Start,.int .i64 v2.Delta]⟩) (hi0 : o0 < τ.next) (Q : TEx → au) (hQ0 : ∀ v : Unit,r = (.ex v) → ∀ (fr : TF) (tk2 : TK) (τ2 : TH),tk2.take 0 = [] → τ2.cut τ.next = τ → Q (.exit 0) fr tk2 τ2) (hQ1 : ∀ v : Bool,r = (.rt v) → ∀ (tk2 : TK) (τ2 : TH),τ2.cut τ.next = τ → Q .ret [(6,.bool v)] tk2 τ2) ,tW G (.loop [1,2,3,7] zb5r) Q [(1,.int .i64 v0),(2,.int .i64 v1),(3,.ptr o0 0),(7,.int .i64 v3)] [] τ
theorem zdfc (v0 : Int) (v1 : Int) (v2 : aa) (v3 : Int) (r : LX (Unit) (Bool)) (h : qe v0 v1 v2 v3 = some r) : xf v0 v1 v2 v3 r := by
 refine bf (f := fun st => jw v0 v1 v2 st) (P := fun st r => ∀ (v3 : Int),v3 = st → xf v0 v1 v2 v3 r) ?_ h v3 rfl
 clear h r v3
 intro st o h r ih v3 hst τ o0 hl ha0 hi0 Q hQ0 hQ1
 subst hst
 have h : jw v0 v1 v2 v3 = some o := h
 unfold jw at h
 refine jo fun LQ hn hr he => ?_
 by_cases c1 : v3 < ((v2.Arcs.length : Nat) : Int)
 · rw [if_pos c1] at h
   obtain ⟨y2,hy2,h⟩ := ob h
   have f3 := aw hy2
   have f3a := (f3.2.2 ac.tv).1
   have f3b := (f3.2.2 ac.tv).2
   try simp only [CL] at f3 f3a f3b
   by_cases c4 : y2.From = v0
   · rw [if_pos c4] at h
     by_cases c5 : y2.To = v1
     · rw [if_pos c5] at h
       injection h with h; subst h
       obtain rfl : _ = r := ih
       simp only [zb5r,zb6y,TT,Ic.t,ci,reduceEqDiff,reduceAdd,ha0,hi0,he,hr,c1,f3.1,f3a,eq_true c4,eq_true c5]
       exact hQ1 true rfl _ _ (by simp only [TT])
     rw [if_neg c5] at h
     injection h with h; subst h
     have ih := ih (IntKind.i64.wrap (v3 + (1 : Int))) rfl
     unfold xf at ih
     simp only [zb5r,zb6y,TT,Ic.t,ci,reduceEqDiff,reduceAdd,reduceCtorEq,ha0,hi0,c1,f3.1,f3a,eq_true c4,c5]
     rw [hn]
     simp only [TT,reduceEqDiff,hi0]
     exact ih τ o0 (by assumption) (by simp only [ha0]) (by assumption) Q hQ0 hQ1
   rw [if_neg c4] at h
   injection h with h; subst h
   have ih := ih (IntKind.i64.wrap (v3 + (1 : Int))) rfl
   unfold xf at ih
   simp only [zb5r,zb6y,TT,Ic.t,ci,reduceEqDiff,reduceAdd,reduceCtorEq,ha0,hi0,c1,f3.1,f3a,c4]
   rw [hn]
   simp only [TT,reduceEqDiff,hi0]
   exact ih τ o0 (by assumption) (by simp only [ha0]) (by assumption) Q hQ0 hQ1
 rw [if_neg c1] at h
 injection h with h; subst h
 obtain rfl : _ = r := ih
 simp only [zb5r,zb6y,TT,Ic.t,ci,reduceEqDiff,reduceCtorEq,ha0,he,c1]
 exact hQ0 () rfl _ _ _ (by rfl) (by simp only [TT])
def zb4y (p1 : aa) (p2 : Int) (p3 : Int) : Option Bool :=
 qe p2 p3 p1 (0 : Int) >>= fun y1 =>
 match y1 with
 | .ex w2 =>
  some false
 | .rt w4 =>
  some w4
theorem zc7c (p1 : aa) (p2 : Int) (p3 : Int) (r : Bool) (h : zb4y p1 p2 p3 = some r) (τ : TH) (hl : τ.lock ≤ τ.next) : Ru G zb4x [.agg [.str p1.ID,.sl (List.map ag.tv p1.Parties),.sl (List.map ac.tv p1.Arcs),.sl (List.map (TV.int .i64) p1.Leaders),.sl (List.map TV.str p1.Locks),.int .i64 p1.Start,.int .i64 p1.Delta],.int .i64 p2,.int .i64 p3] τ (.bool r) τ := by
 refine jv fun K hK => ?_
 rw [bh zbt7 (Nat.le_of_ble_eq_true rfl)]
 unfold zb4y at h
 obtain ⟨y1,hy1,h⟩ := ob h
 simp only [zb6y,TT,Ic.t,ci,reduceEqDiff,reduceAdd,reduceCtorEq]
 have Sy1 := zdfc p2 p3 p1 (0 : Int) y1 hy1
 unfold xf at Sy1
 refine Sy1 _ τ.next (by simp only [aj,ap]; omega) (by simp only [TT]) (by simp only [aj]; omega) _ ?_ ?_
 · intro w2 e frq3 tkq3 τq3 htq3 hcq3
   subst e
   simp only at h
   have hcq3 := az (n := τ.next + 1) hcq3 (by simp only [aj]; omega)
   try simp only [List.take_zero] at htq3
   try simp only [TT] at hcq3
   injection h with h; subst h
   simp only [TT,hcq3]
   exact hK
 intro w4 e tkq5 τq5 hcq5
 subst e
 simp only at h
 have hcq5 := az (n := τ.next) hcq5 (by simp only [aj]; omega)
 try simp only [TT] at hcq5
 injection h with h; subst h
 simp only [TT,hcq5]
 exact hK
theorem zc9x (p1 : aa) (p2 : Int) (p3 : Int) (r : Bool) (h : zb4y p1 p2 p3 = some r) (lk : Bool) (d : Option Nat) (K : au) (fr : TF) (tk : TK) (τ : TH) (hl : τ.lock ≤ τ.next) : eo G lk zb4x [.agg [.str p1.ID,.sl (List.map ag.tv p1.Parties),.sl (List.map ac.tv p1.Arcs),.sl (List.map (TV.int .i64) p1.Leaders),.sl (List.map TV.str p1.Locks),.int .i64 p1.Start,.int .i64 p1.Delta],.int .i64 p2,.int .i64 p3] d K fr tk τ = K (fv fr d (.bool r)) tk τ :=
 av (zc7c p1 p2 p3 r h τ hl) (zc7c p1 p2 p3 r h (τ.locked τ.next) (Nat.le_refl _) ) (by simp only [TT])
def gn (v0 : (List Int)) (v1 : aa) (v2 : Int) (v3 : Int) : Option (LS (Int) (LX (Unit) (Bool))) :=
 if v3 < v2 then
  ixL v0 v3 >>= fun y2 =>
  ixL v0 v2 >>= fun y4 =>
  if y2 = y4 then
   some (.dn (.rt false))
  else
  some (.nx (IntKind.i64.wrap (v3 + (1 : Int))))
 else
 some (.dn (.ex ()))
def d7 (v0 : (List Int)) (v1 : aa) (v2 : Int) (v3 : Int) : Option (LX (Unit) (Bool)) := kx (fun st => gn v0 v1 v2 st) v3
theorem zcga (v0 : (List Int)) (v1 : aa) (v2 : Int) (v3 : Int) : d7 v0 v1 v2 v3 = gn v0 v1 v2 v3 >>= LS.go (fun st => d7 v0 v1 v2 st) := bu (fun st => gn v0 v1 v2 st) v3
def ug (v0 : (List Int)) (v1 : aa) (v2 : Int) (v3 : Int) (r : LX (Unit) (Bool)) : Prop := ∀ (τ : TH) (o0 : Nat) (hl : τ.lock ≤ τ.next) (ha0 : τ.at o0 = some ⟨am,[.str v1.ID,.sl (List.map ag.tv v1.Parties),.sl (List.map ac.tv v1.Arcs),.sl (List.map (TV.int .i64) v1.Leaders),.sl (List.map TV.str v1.Locks),.int .i64 v1.Start,.int .i64 v1.Delta]⟩) (hi0 : o0 < τ.next) (Q : TEx → au) (hQ0 : ∀ v : Unit,r = (.ex v) → ∀ (fr : TF) (tk2 : TK) (τ2 : TH),lkp fr 1 = .sl (List.map (TV.int .i64) v0) → lkp fr 2 = .ptr o0 0 → lkp fr 5 = .int .i64 v2 → tk2.take 0 = [] → τ2.cut τ.next = τ → Q (.exit 2) fr tk2 τ2) (hQ1 : ∀ v : Bool,r = (.rt v) → ∀ (tk2 : TK) (τ2 : TH),τ2.cut τ.next = τ → Q .ret [(4,.bool v)] tk2 τ2) ,tW G (.loop [1,2,5,6] zb62) Q [(1,.sl (List.map (TV.int .i64) v0)),(2,.ptr o0 0),(5,.int .i64 v2),(6,.int .i64 v3)] [] τ
theorem zcxw (v0 : (List Int)) (v1 : aa) (v2 : Int) (v3 : Int) (r : LX (Unit) (Bool)) (h : d7 v0 v1 v2 v3 = some r) : ug v0 v1 v2 v3 r := by
 refine bf (f := fun st => gn v0 v1 v2 st) (P := fun st r => ∀ (v3 : Int),v3 = st → ug v0 v1 v2 v3 r) ?_ h v3 rfl
 clear h r v3
 intro st o h r ih v3 hst τ o0 hl ha0 hi0 Q hQ0 hQ1
 subst hst
 have h : gn v0 v1 v2 v3 = some o := h
 unfold gn at h
 refine jo fun LQ hn hr he => ?_
 by_cases c1 : v3 < v2
 · rw [if_pos c1] at h
   obtain ⟨y2,hy2,h⟩ := ob h
   have f3 := aw hy2
   have f3a := (f3.2.2 (TV.int .i64)).1
   have f3b := (f3.2.2 (TV.int .i64)).2
   try simp only [CL,MC,reduceToNat] at f3 f3a f3b
   obtain ⟨y4,hy4,h⟩ := ob h
   have f5 := aw hy4
   have f5a := (f5.2.2 (TV.int .i64)).1
   have f5b := (f5.2.2 (TV.int .i64)).2
   try simp only [CL,MC,reduceToNat] at f5 f5a f5b
   by_cases c6 : y2 = y4
   · rw [if_pos c6] at h
     injection h with h; subst h
     obtain rfl : _ = r := ih
     simp only [zb62,iw,TT,Ic.t,ci,reduceEqDiff,hi0,he,hr,c1,f3.1,f3.2.1,f3a,f5.1,f5.2.1,f5a,eq_true c6]
     exact hQ1 false rfl _ _ (by simp only [TT])
   rw [if_neg c6] at h
   injection h with h; subst h
   have ih := ih (IntKind.i64.wrap (v3 + (1 : Int))) rfl
   unfold ug at ih
   simp only [zb62,iw,TT,Ic.t,ci,reduceEqDiff,reduceCtorEq,hi0,c1,f3.1,f3.2.1,f3a,f5.1,f5.2.1,f5a,c6]
   rw [hn]
   simp only [TT,reduceEqDiff,hi0]
   exact ih τ o0 (by assumption) (by simp only [ha0]) (by assumption) Q hQ0 hQ1
 rw [if_neg c1] at h
 injection h with h; subst h
 obtain rfl : _ = r := ih
 simp only [zb62,iw,TT,Ic.t,ci,reduceEqDiff,reduceCtorEq,he,c1]
 exact hQ0 () rfl _ _ _ (by rfl) (by rfl) (by rfl) (by rfl) (by simp only [TT])
def gp (v0 : (List Int)) (v1 : aa) (v2 : Int) : Option (LS (Int) (LX (Unit) (Bool))) :=
 if v2 < ((v0.length : Nat) : Int) then
  ixL v0 v2 >>= fun y2 =>
  if y2 < (0 : Int) then
   some (.dn (.rt false))
  else
  if ((v1.Parties.length : Nat) : Int) ≤ y2 then
   some (.dn (.rt false))
  else
  if (0 : Int) < v2 then
   ixL v0 (IntKind.i64.wrap (v2 - (1 : Int))) >>= fun y7 =>
   zb4y v1 y7 y2 >>= fun y9 =>
   if y9 = true then
    d7 v0 v1 v2 (0 : Int) >>= fun y12 =>
    match y12 with
    | .ex w13 =>
     some (.nx (IntKind.i64.wrap (v2 + (1 : Int))))
    | .rt w15 =>
     some (.dn (.rt w15))
   else
   some (.dn (.rt false))
  else
  d7 v0 v1 v2 (0 : Int) >>= fun y17 =>
  match y17 with
  | .ex w18 =>
   some (.nx (IntKind.i64.wrap (v2 + (1 : Int))))
  | .rt w20 =>
   some (.dn (.rt w20))
 else
 some (.dn (.ex ()))
def kg (v0 : (List Int)) (v1 : aa) (v2 : Int) : Option (LX (Unit) (Bool)) := kx (fun st => gp v0 v1 st) v2
theorem zcf9 (v0 : (List Int)) (v1 : aa) (v2 : Int) : kg v0 v1 v2 = gp v0 v1 v2 >>= LS.go (fun st => kg v0 v1 st) := bu (fun st => gp v0 v1 st) v2
def uh (v0 : (List Int)) (v1 : aa) (v2 : Int) (r : LX (Unit) (Bool)) : Prop := ∀ (τ : TH) (o0 : Nat) (hl : τ.lock ≤ τ.next) (ha0 : τ.at o0 = some ⟨am,[.str v1.ID,.sl (List.map ag.tv v1.Parties),.sl (List.map ac.tv v1.Arcs),.sl (List.map (TV.int .i64) v1.Leaders),.sl (List.map TV.str v1.Locks),.int .i64 v1.Start,.int .i64 v1.Delta]⟩) (hi0 : o0 < τ.next) (Q : TEx → au) (hQ0 : ∀ v : Unit,r = (.ex v) → ∀ (fr : TF) (tk2 : TK) (τ2 : TH),tk2.take 0 = [] → τ2.cut τ.next = τ → Q (.exit 0) fr tk2 τ2) (hQ1 : ∀ v : Bool,r = (.rt v) → ∀ (tk2 : TK) (τ2 : TH),τ2.cut τ.next = τ → Q .ret [(4,.bool v)] tk2 τ2) ,tW G (.loop [1,2,5] kn) Q [(1,.sl (List.map (TV.int .i64) v0)),(2,.ptr o0 0),(5,.int .i64 v2)] [] τ
theorem zdf2 (v0 : (List Int)) (v1 : aa) (v2 : Int) (r : LX (Unit) (Bool)) (h : kg v0 v1 v2 = some r) : uh v0 v1 v2 r := by
 refine bf (f := fun st => gp v0 v1 st) (P := fun st r => ∀ (v2 : Int),v2 = st → uh v0 v1 v2 r) ?_ h v2 rfl
 clear h r v2
 intro st o h r ih v2 hst τ o0 hl ha0 hi0 Q hQ0 hQ1
 subst hst
 have h : gp v0 v1 v2 = some o := h
 unfold gp at h
 refine jo fun LQ hn hr he => ?_
 by_cases c1 : v2 < ((v0.length : Nat) : Int)
 · rw [if_pos c1] at h
   obtain ⟨y2,hy2,h⟩ := ob h
   have f3 := aw hy2
   have f3a := (f3.2.2 (TV.int .i64)).1
   have f3b := (f3.2.2 (TV.int .i64)).2
   try simp only [CL,MC,reduceToNat] at f3 f3a f3b
   by_cases c4 : y2 < (0 : Int)
   · rw [if_pos c4] at h
     injection h with h; subst h
     obtain rfl : _ = r := ih
     simp only [kn,iw,TT,Ic.t,ci,reduceEqDiff,he,hr,c1,f3.1,f3a,c4]
     exact hQ1 false rfl _ _ (by simp only [TT])
   rw [if_neg c4] at h
   by_cases c5 : ((v1.Parties.length : Nat) : Int) ≤ y2
   · rw [if_pos c5] at h
     injection h with h; subst h
     obtain rfl : _ = r := ih
     simp only [kn,iw,TT,Ic.t,ci,reduceEqDiff,ha0,he,hr,c1,f3.1,f3a,c4,c5]
     exact hQ1 false rfl _ _ (by simp only [TT])
   rw [if_neg c5] at h
   by_cases c6 : (0 : Int) < v2
   · rw [if_pos c6] at h
     obtain ⟨y7,hy7,h⟩ := ob h
     have f8 := aw hy7
     have f8a := (f8.2.2 (TV.int .i64)).1
     have f8b := (f8.2.2 (TV.int .i64)).2
     try simp only [CL,MC,reduceToNat] at f8 f8a f8b
     obtain ⟨y9,hy9,h⟩ := ob h
     have k10 := zc9x v1 y7 y2 _ hy9
     try simp only [CL,MC,reduceToNat] at k10
     by_cases c11 : y9 = true
     · rw [if_pos c11] at h
       obtain ⟨y12,hy12,h⟩ := ob h
       simp only [kn,iw,TT,Ic.t,ci,reduceEqDiff,reduceAdd,reduceCtorEq,hl,ha0,c1,f3.1,f3a,c4,c5,c6,f8.1,f8.2.1,f8a,k10,c11]
       have Sy12 := zcxw v0 v1 v2 (0 : Int) y12 hy12
       unfold ug at Sy12
       refine Sy12 _ o0 (by assumption) (by simp only [ha0]) (by assumption) _ ?_ ?_
       · intro w13 e frq14 tkq14 τq14 g1q14 g2q14 g5q14 htq14 hcq14
         subst e
         simp only at h
         have hcq14 := az (n := τ.next) hcq14 (by omega)
         try simp only [List.take_zero] at htq14
         try simp only [TT] at hcq14
         injection h with h; subst h
         have ih := ih (IntKind.i64.wrap (v2 + (1 : Int))) rfl
         unfold uh at ih
         simp only [TT,reduceEqDiff,hi0,g1q14,g2q14,g5q14,hcq14]
         rw [hn]
         simp only [TT,reduceEqDiff,hi0]
         exact ih τ o0 (by assumption) (by simp only [ha0]) (by assumption) Q hQ0 hQ1
       intro w15 e tkq16 τq16 hcq16
       subst e
       simp only at h
       have hcq16 := az (n := τ.next) hcq16 (by omega)
       try simp only [TT] at hcq16
       injection h with h; subst h
       obtain rfl : _ = r := ih
       simp only [TT,hr]
       exact hQ1 w15 rfl _ _ (by simp only [hcq16])
     rw [if_neg c11] at h
     have c11 := Bool.eq_false_iff.2 c11
     injection h with h; subst h
     obtain rfl : _ = r := ih
     simp only [kn,iw,TT,Ic.t,ci,reduceEqDiff,reduceAdd,reduceCtorEq,hl,ha0,he,hr,c1,f3.1,f3a,c4,c5,c6,f8.1,f8.2.1,f8a,k10,c11]
     exact hQ1 false rfl _ _ (by simp only [TT])
   rw [if_neg c6] at h
   obtain ⟨y17,hy17,h⟩ := ob h
   simp only [kn,iw,TT,Ic.t,ci,reduceEqDiff,reduceCtorEq,ha0,c1,f3.1,f3a,c4,c5,c6]
   have Sy17 := zcxw v0 v1 v2 (0 : Int) y17 hy17
   unfold ug at Sy17
   refine Sy17 _ o0 (by assumption) (by simp only [ha0]) (by assumption) _ ?_ ?_
   · intro w18 e frq19 tkq19 τq19 g1q19 g2q19 g5q19 htq19 hcq19
     subst e
     simp only at h
     have hcq19 := az (n := τ.next) hcq19 (by omega)
     try simp only [List.take_zero] at htq19
     try simp only [TT] at hcq19
     injection h with h; subst h
     have ih := ih (IntKind.i64.wrap (v2 + (1 : Int))) rfl
     unfold uh at ih
     simp only [TT,reduceEqDiff,hi0,g1q19,g2q19,g5q19,hcq19]
     rw [hn]
     simp only [TT,reduceEqDiff,hi0]
     exact ih τ o0 (by assumption) (by simp only [ha0]) (by assumption) Q hQ0 hQ1
   intro w20 e tkq21 τq21 hcq21
   subst e
   simp only at h
   have hcq21 := az (n := τ.next) hcq21 (by omega)
   try simp only [TT] at hcq21
   injection h with h; subst h
   obtain rfl : _ = r := ih
   simp only [TT,hr]
   exact hQ1 w20 rfl _ _ (by simp only [hcq21])
 rw [if_neg c1] at h
 injection h with h; subst h
 obtain rfl : _ = r := ih
 simp only [kn,iw,TT,Ic.t,ci,reduceEqDiff,reduceCtorEq,he,c1]
 exact hQ0 () rfl _ _ _ (by rfl) (by simp only [TT])
def zb49 (p1 : aa) (p2 : (List Int)) : Option Bool :=
 pn p1 >>= fun y1 =>
 if y1 = true then
  if ((p2.length : Nat) : Int) = (0 : Int) then
   some false
  else
  kg p2 p1 (0 : Int) >>= fun y5 =>
  match y5 with
  | .ex w6 =>
   some true
  | .rt w8 =>
   some w8
 else
 some false
theorem zcqa (p1 : aa) (p2 : (List Int)) (r : Bool) (h : zb49 p1 p2 = some r) (τ : TH) (hl : τ.lock ≤ τ.next) : Ru G zb46 [.agg [.str p1.ID,.sl (List.map ag.tv p1.Parties),.sl (List.map ac.tv p1.Arcs),.sl (List.map (TV.int .i64) p1.Leaders),.sl (List.map TV.str p1.Locks),.int .i64 p1.Start,.int .i64 p1.Delta],.sl (List.map (TV.int .i64) p2)] τ (.bool r) τ := by
 refine jv fun K hK => ?_
 rw [bh zbnw (Nat.le_of_ble_eq_true rfl)]
 unfold zb49 at h
 obtain ⟨y1,hy1,h⟩ := ob h
 have k2 := zb64 p1 _ hy1
 try simp only [CL,MC,reduceToNat] at k2
 by_cases c3 : y1 = true
 · rw [if_pos c3] at h
   by_cases c4 : ((p2.length : Nat) : Int) = (0 : Int)
   · rw [if_pos c4] at h
     injection h with h; subst h
     simp only [iw,TT,Ic.t,ci,reduceEqDiff,reduceAdd,reduceCtorEq,hl,k2,c3,eq_true c4]
     first | exact hK | (simp only [hl,k2,c3,eq_true c4,CL] at hK; exact hK)
   rw [if_neg c4] at h
   obtain ⟨y5,hy5,h⟩ := ob h
   simp only [iw,TT,Ic.t,ci,reduceEqDiff,reduceAdd,reduceCtorEq,hl,k2,c3,c4]
   have Sy5 := zdf2 p2 p1 (0 : Int) y5 hy5
   unfold uh at Sy5
   refine Sy5 _ τ.next (by simp only [aj,ap]; omega) (by simp only [TT]) (by simp only [aj]; omega) _ ?_ ?_
   · intro w6 e frq7 tkq7 τq7 htq7 hcq7
     subst e
     simp only at h
     have hcq7 := az (n := τ.next + 1) hcq7 (by simp only [aj]; omega)
     try simp only [List.take_zero] at htq7
     try simp only [TT] at hcq7
     injection h with h; subst h
     simp only [TT,hcq7]
     first | exact hK | (simp only [hl,k2,c3,c4,htq7,hcq7,CL] at hK; exact hK)
   intro w8 e tkq9 τq9 hcq9
   subst e
   simp only at h
   have hcq9 := az (n := τ.next) hcq9 (by simp only [aj]; omega)
   try simp only [TT] at hcq9
   injection h with h; subst h
   simp only [TT,hcq9]
   first | exact hK | (simp only [hl,k2,c3,c4,hcq9,CL] at hK; exact hK)
 rw [if_neg c3] at h
 have c3 := Bool.eq_false_iff.2 c3
 injection h with h; subst h
 simp only [iw,TT,Ic.t,ci,reduceEqDiff,reduceAdd,reduceCtorEq,hl,k2,c3]
 first | exact hK | (simp only [hl,k2,c3,CL] at hK; exact hK)
theorem zda3 (p1 : aa) (p2 : (List Int)) (r : Bool) (h : zb49 p1 p2 = some r) (lk : Bool) (d : Option Nat) (K : au) (fr : TF) (tk : TK) (τ : TH) (hl : τ.lock ≤ τ.next) : eo G lk zb46 [.agg [.str p1.ID,.sl (List.map ag.tv p1.Parties),.sl (List.map ac.tv p1.Arcs),.sl (List.map (TV.int .i64) p1.Leaders),.sl (List.map TV.str p1.Locks),.int .i64 p1.Start,.int .i64 p1.Delta],.sl (List.map (TV.int .i64) p2)] d K fr tk τ = K (fv fr d (.bool r)) tk τ :=
 av (zcqa p1 p2 r h τ hl) (zcqa p1 p2 r h (τ.locked τ.next) (Nat.le_refl _) ) (by simp only [TT])
def fi (v0 : Int) (v1 : aa) (v2 : (List Int)) (v3 : Int) : Option (LS ((List Int) × Int) ((List Int))) :=
 if v3 < ((v1.Arcs.length : Nat) : Int) then
  pn v1 >>= fun y2 =>
  if y2 = true then
   ixL v1.Arcs v3 >>= fun y5 =>
   if y5.To = v0 then
    if (v2.length + 1) * 8 ≤ 140737488355328 then
     some (.nx ((v2 ++ [v3]),(IntKind.i64.wrap (v3 + (1 : Int)))))
    else
     none
   else
   some (.nx (v2,(IntKind.i64.wrap (v3 + (1 : Int)))))
  else
  some (.dn v2)
 else
 some (.dn v2)
def ng (v0 : Int) (v1 : aa) (v2 : (List Int)) (v3 : Int) : Option ((List Int)) := kx (fun st => fi v0 v1 st.1 st.2) (v2,v3)
theorem zcgb (v0 : Int) (v1 : aa) (v2 : (List Int)) (v3 : Int) : ng v0 v1 v2 v3 = fi v0 v1 v2 v3 >>= LS.go (fun st => ng v0 v1 st.1 st.2) := bu (fun st => fi v0 v1 st.1 st.2) (v2,v3)
def rn (v0 : Int) (v1 : aa) (v2 : (List Int)) (v3 : Int) (r : (List Int)) : Prop := ∀ (τ : TH) (o0 : Nat) (n0 : Nat) (ty0 : TypeId) (hnn0 : n0 = v2.length) (hty0 : n0 = 0 ∨ ty0 = cy) (hl : τ.lock ≤ τ.next) (ha0 : τ.at o0 = some ⟨am,[.str v1.ID,.sl (List.map ag.tv v1.Parties),.sl (List.map ac.tv v1.Arcs),.sl (List.map (TV.int .i64) v1.Leaders),.sl (List.map TV.str v1.Locks),.int .i64 v1.Start,.int .i64 v1.Delta]⟩) (hi0 : o0 < τ.next) (Q : TEx → au) (hQ0 : ∀ (fr : TF) (tk2 : TK) (τ2 : TH),∀ (u0 : TypeId),(r.length = 0 ∨ u0 = cy) → lkp fr 5 = .sla 0 (List.map (TV.int .i64) r) → tk2.take 1 = [some (r.length,u0)] → τ2.cut τ.next = τ → Q (.exit 0) fr tk2 τ2) ,tW G (.loop [1,2,5,6] u5) Q [(1,.int .i64 v0),(2,.ptr o0 0),(5,.sla 0 (List.map (TV.int .i64) v2)),(6,.int .i64 v3)] [some (n0,ty0)] τ
theorem zdgp (v0 : Int) (v1 : aa) (v2 : (List Int)) (v3 : Int) (r : (List Int)) (h : ng v0 v1 v2 v3 = some r) : rn v0 v1 v2 v3 r := by
 refine bf (f := fun st => fi v0 v1 st.1 st.2) (P := fun st r => ∀ (v2 : (List Int)) (v3 : Int),(v2,v3) = st → rn v0 v1 v2 v3 r) ?_ h v2 v3 rfl
 clear h r v3 v2
 intro st o h r ih v2 v3 hst τ o0 n0 ty0 hnn0 hty0 hl ha0 hi0 Q hQ0
 subst hst
 have h : fi v0 v1 v2 v3 = some o := h
 unfold fi at h
 subst hnn0
 refine jo fun LQ hn hr he => ?_
 by_cases c1 : v3 < ((v1.Arcs.length : Nat) : Int)
 · rw [if_pos c1] at h
   obtain ⟨y2,hy2,h⟩ := ob h
   have k3 := zb64 v1 _ hy2
   try simp only [CL,MC,reduceToNat] at k3
   by_cases c4 : y2 = true
   · rw [if_pos c4] at h
     obtain ⟨y5,hy5,h⟩ := ob h
     have f6 := aw hy5
     have f6a := (f6.2.2 ac.tv).1
     have f6b := (f6.2.2 ac.tv).2
     try simp only [CL] at f6 f6a f6b
     by_cases c7 : y5.To = v0
     · rw [if_pos c7] at h
       obtain ⟨c8,h⟩ := ifS h
       have f9 : 1 ≤ maxLen := by unfold maxLen; omega
       have f10 : v2.length + 1 ≤ maxLen := by unfold maxLen; omega
       have f11 : ((List.map (TV.int .i64) v2).all fun e => e.cells.length == 1) = true := zbmt (fun _ => rfl) _
       have f12 : List.map (TV.int .i64) v2 ++ List.map (TV.int .i64) [v3] = List.map (TV.int .i64) (v2 ++ [v3]) := zbu3 _ _
       try simp only [List.map_cons,List.map_nil] at f12
       injection h with h; subst h
       have ih := ih (v2 ++ [v3]) (IntKind.i64.wrap (v3 + (1 : Int))) rfl
       unfold rn at ih
       simp only [u5,zb63,TT,Ic.t,ci,reduceEqDiff,reduceAdd,reduceLT,reduceLeDiff,reduceCtorEq,hl,ha0,hi0,hty0,c1,k3,c4,f6.1,f6a,eq_true c7,c8,f9,f10,f11,f12]
       rw [hn]
       simp only [TT,reduceEqDiff,reduceLT,hi0]
       exact ih τ o0 (v2.length + 1) cy (by simp []) (by exact Or.inr rfl) (by assumption) (by simp only [ha0]) (by assumption) Q hQ0
     rw [if_neg c7] at h
     injection h with h; subst h
     have ih := ih v2 (IntKind.i64.wrap (v3 + (1 : Int))) rfl
     unfold rn at ih
     simp only [u5,zb63,TT,Ic.t,ci,reduceEqDiff,reduceAdd,reduceLT,reduceLeDiff,reduceCtorEq,hl,ha0,hi0,hty0,c1,k3,c4,f6.1,f6a,c7]
     rw [hn]
     simp only [TT,reduceEqDiff,reduceLT,hi0]
     exact ih τ o0 _ ty0 (by rfl) (by exact hty0) (by assumption) (by simp only [ha0]) (by assumption) Q hQ0
   rw [if_neg c4] at h
   have c4 := Bool.eq_false_iff.2 c4
   injection h with h; subst h
   obtain rfl : _ = r := ih
   simp only [u5,zb63,TT,Ic.t,ci,reduceEqDiff,reduceAdd,reduceCtorEq,hl,ha0,he,c1,k3,c4]
   exact hQ0 _ _ _ ty0 (by exact hty0) (by rfl) (by rfl) (by simp only [TT])
 rw [if_neg c1] at h
 injection h with h; subst h
 obtain rfl : _ = r := ih
 simp only [u5,zb63,TT,Ic.t,ci,reduceEqDiff,reduceCtorEq,ha0,he,c1]
 exact hQ0 _ _ _ ty0 (by exact hty0) (by rfl) (by rfl) (by simp only [TT])
def zb5m (p1 : aa) (p2 : Int) : Option (List Int) :=
 ng p2 p1 [] (0 : Int) >>= fun y1 =>
 some y1
theorem zcsb (p1 : aa) (p2 : Int) (r : (List Int)) (h : zb5m p1 p2 = some r) (τ : TH) (hl : τ.lock ≤ τ.next) : Ru G zb5i [.agg [.str p1.ID,.sl (List.map ag.tv p1.Parties),.sl (List.map ac.tv p1.Arcs),.sl (List.map (TV.int .i64) p1.Leaders),.sl (List.map TV.str p1.Locks),.int .i64 p1.Start,.int .i64 p1.Delta],.int .i64 p2] τ (.sl (List.map (TV.int .i64) r)) τ := by
 refine jv fun K hK => ?_
 rw [bh zdae (Nat.le_of_ble_eq_true rfl)]
 unfold zb5m at h
 obtain ⟨y1,hy1,h⟩ := ob h
 simp only [zb63,TT,Ic.t,ci,reduceEqDiff,reduceAdd,reduceCtorEq]
 have Sy1 := zdgp p2 p1 [] (0 : Int) y1 hy1
 unfold rn at Sy1
 refine Sy1 _ τ.next 0 0 (by rfl) (by exact Or.inl rfl) (by simp only [aj,ap]; omega) (by simp only [TT]) (by simp only [aj]; omega) _ ?_
 intro frq2 tkq2 τq2 u0q2 uh0q2 g5q2 htq2 hcq2
 have hcq2 := az (n := τ.next + 1) hcq2 (by simp only [aj]; omega)
 try simp only [List.take_succ_cons,List.take_zero,List.take_nil,CL] at htq2
 try simp only [TT] at hcq2
 injection h with h; subst h
 simp only [TT,reduceLT,g5q2,htq2,hcq2]
 exact hK
theorem zdeo (p1 : aa) (p2 : Int) (r : (List Int)) (h : zb5m p1 p2 = some r) (lk : Bool) (d : Option Nat) (K : au) (fr : TF) (tk : TK) (τ : TH) (hl : τ.lock ≤ τ.next) : eo G lk zb5i [.agg [.str p1.ID,.sl (List.map ag.tv p1.Parties),.sl (List.map ac.tv p1.Arcs),.sl (List.map (TV.int .i64) p1.Leaders),.sl (List.map TV.str p1.Locks),.int .i64 p1.Start,.int .i64 p1.Delta],.int .i64 p2] d K fr tk τ = K (fv fr d (.sl (List.map (TV.int .i64) r))) tk τ :=
 av (zcsb p1 p2 r h τ hl) (zcsb p1 p2 r h (τ.locked τ.next) (Nat.le_refl _) ) (by simp only [TT])
def dw (v0 : (List Int)) (v1 : (List Int)) (v2 : Int) : Option (LS (Int) (LX (Unit) (Bool))) :=
 if v2 < ((v0.length : Nat) : Int) then
  ixL v0 v2 >>= fun y2 =>
  ixL v1 v2 >>= fun y4 =>
  if y2 = y4 then
   some (.nx (IntKind.i64.wrap (v2 + (1 : Int))))
  else
  some (.dn (.rt false))
 else
 some (.dn (.ex ()))
def fu (v0 : (List Int)) (v1 : (List Int)) (v2 : Int) : Option (LX (Unit) (Bool)) := kx (fun st => dw v0 v1 st) v2
theorem zc3v (v0 : (List Int)) (v1 : (List Int)) (v2 : Int) : fu v0 v1 v2 = dw v0 v1 v2 >>= LS.go (fun st => fu v0 v1 st) := bu (fun st => dw v0 v1 st) v2
def qu (v0 : (List Int)) (v1 : (List Int)) (v2 : Int) (r : LX (Unit) (Bool)) : Prop := ∀ (τ : TH) (hl : τ.lock ≤ τ.next) (Q : TEx → au) (hQ0 : ∀ v : Unit,r = (.ex v) → ∀ (fr : TF) (tk2 : TK) (τ2 : TH),tk2.take 0 = [] → τ2.cut τ.next = τ → Q (.exit 0) fr tk2 τ2) (hQ1 : ∀ v : Bool,r = (.rt v) → ∀ (tk2 : TK) (τ2 : TH),τ2.cut τ.next = τ → Q .ret [(4,.bool v)] tk2 τ2) ,tW G (.loop [0,1,5] rh) Q [(0,.sl (List.map (TV.int .i64) v0)),(1,.sl (List.map (TV.int .i64) v1)),(5,.int .i64 v2)] [] τ
theorem zdc4 (v0 : (List Int)) (v1 : (List Int)) (v2 : Int) (r : LX (Unit) (Bool)) (h : fu v0 v1 v2 = some r) : qu v0 v1 v2 r := by
 refine bf (f := fun st => dw v0 v1 st) (P := fun st r => ∀ (v2 : Int),v2 = st → qu v0 v1 v2 r) ?_ h v2 rfl
 clear h r v2
 intro st o h r ih v2 hst τ hl Q hQ0 hQ1
 subst hst
 have h : dw v0 v1 v2 = some o := h
 unfold dw at h
 refine jo fun LQ hn hr he => ?_
 by_cases c1 : v2 < ((v0.length : Nat) : Int)
 · rw [if_pos c1] at h
   obtain ⟨y2,hy2,h⟩ := ob h
   have f3 := aw hy2
   have f3a := (f3.2.2 (TV.int .i64)).1
   have f3b := (f3.2.2 (TV.int .i64)).2
   try simp only [CL,MC,reduceToNat] at f3 f3a f3b
   obtain ⟨y4,hy4,h⟩ := ob h
   have f5 := aw hy4
   have f5a := (f5.2.2 (TV.int .i64)).1
   have f5b := (f5.2.2 (TV.int .i64)).2
   try simp only [CL,MC,reduceToNat] at f5 f5a f5b
   by_cases c6 : y2 = y4
   · rw [if_pos c6] at h
     injection h with h; subst h
     have ih := ih (IntKind.i64.wrap (v2 + (1 : Int))) rfl
     unfold qu at ih
     simp only [rh,pg,TT,Ic.t,ci,reduceEqDiff,reduceCtorEq,c1,f3.1,f3a,f5.2.1,f5a,eq_true c6]
     rw [hn]
     simp only [TT,reduceEqDiff,reduceCtorEq]
     exact ih τ (by assumption) Q hQ0 hQ1
   rw [if_neg c6] at h
   injection h with h; subst h
   obtain rfl : _ = r := ih
   simp only [rh,pg,TT,Ic.t,ci,reduceEqDiff,reduceCtorEq,he,hr,c1,f3.1,f3a,f5.2.1,f5a,c6]
   exact hQ1 false rfl _ _ (by simp only [TT])
 rw [if_neg c1] at h
 injection h with h; subst h
 obtain rfl : _ = r := ih
 simp only [rh,pg,TT,Ic.t,ci,reduceEqDiff,reduceCtorEq,he,c1]
 exact hQ0 () rfl _ _ _ (by rfl) (by simp only [TT])
def pm (p1 : (List Int)) (p2 : (List Int)) : Option Bool :=
 if ((p1.length : Nat) : Int) = ((p2.length : Nat) : Int) then
  fu p1 p2 (0 : Int) >>= fun y2 =>
  match y2 with
  | .ex w3 =>
   some true
  | .rt w5 =>
   some w5
 else
 some false
theorem zc0i (p1 : (List Int)) (p2 : (List Int)) (r : Bool) (h : pm p1 p2 = some r) (τ : TH) (hl : τ.lock ≤ τ.next) : Ru G pq [.sl (List.map (TV.int .i64) p1),.sl (List.map (TV.int .i64) p2)] τ (.bool r) τ := by
 refine jv fun K hK => ?_
 rw [bh zdfp (Nat.le_of_ble_eq_true rfl)]
 unfold pm at h
 by_cases c1 : ((p1.length : Nat) : Int) = ((p2.length : Nat) : Int)
 · rw [if_pos c1] at h
   obtain ⟨y2,hy2,h⟩ := ob h
   simp only [pg,TT,Ic.t,ci,reduceEqDiff,reduceAdd,reduceCtorEq,eq_true c1]
   have Sy2 := zdc4 p1 p2 (0 : Int) y2 hy2
   unfold qu at Sy2
   refine Sy2 _ (by assumption) _ ?_ ?_
   · intro w3 e frq4 tkq4 τq4 htq4 hcq4
     subst e
     simp only at h
     have hcq4 := az (n := τ.next) hcq4 (by omega)
     try simp only [List.take_zero] at htq4
     try simp only [TT] at hcq4
     injection h with h; subst h
     simp only [TT,hcq4]
     exact hK
   intro w5 e tkq6 τq6 hcq6
   subst e
   simp only at h
   have hcq6 := az (n := τ.next) hcq6 (by omega)
   try simp only [TT] at hcq6
   injection h with h; subst h
   simp only [TT,hcq6]
   exact hK
 rw [if_neg c1] at h
 injection h with h; subst h
 simp only [pg,TT,Ic.t,ci,reduceEqDiff,reduceAdd,reduceCtorEq,c1]
 exact hK
theorem zc0h (p1 : (List Int)) (p2 : (List Int)) (r : Bool) (h : pm p1 p2 = some r) (lk : Bool) (d : Option Nat) (K : au) (fr : TF) (tk : TK) (τ : TH) (hl : τ.lock ≤ τ.next) : eo G lk pq [.sl (List.map (TV.int .i64) p1),.sl (List.map (TV.int .i64) p2)] d K fr tk τ = K (fv fr d (.bool r)) tk τ :=
 av (zc0i p1 p2 r h τ hl) (zc0i p1 p2 r h (τ.locked τ.next) (Nat.le_refl _) ) (by simp only [TT])
def fh (v0 : Int) (v1 : aa) (v2 : (List Int)) (v3 : Int) : Option (LS ((List Int) × Int) ((List Int))) :=
 if v3 < ((v1.Arcs.length : Nat) : Int) then
  pn v1 >>= fun y2 =>
  if y2 = true then
   ixL v1.Arcs v3 >>= fun y5 =>
   if y5.From = v0 then
    if (v2.length + 1) * 8 ≤ 140737488355328 then
     some (.nx ((v2 ++ [v3]),(IntKind.i64.wrap (v3 + (1 : Int)))))
    else
     none
   else
   some (.nx (v2,(IntKind.i64.wrap (v3 + (1 : Int)))))
  else
  some (.dn v2)
 else
 some (.dn v2)
def nf (v0 : Int) (v1 : aa) (v2 : (List Int)) (v3 : Int) : Option ((List Int)) := kx (fun st => fh v0 v1 st.1 st.2) (v2,v3)
theorem zcgc (v0 : Int) (v1 : aa) (v2 : (List Int)) (v3 : Int) : nf v0 v1 v2 v3 = fh v0 v1 v2 v3 >>= LS.go (fun st => nf v0 v1 st.1 st.2) := bu (fun st => fh v0 v1 st.1 st.2) (v2,v3)
def rm (v0 : Int) (v1 : aa) (v2 : (List Int)) (v3 : Int) (r : (List Int)) : Prop := ∀ (τ : TH) (o0 : Nat) (n0 : Nat) (ty0 : TypeId) (hnn0 : n0 = v2.length) (hty0 : n0 = 0 ∨ ty0 = cy) (hl : τ.lock ≤ τ.next) (ha0 : τ.at o0 = some ⟨am,[.str v1.ID,.sl (List.map ag.tv v1.Parties),.sl (List.map ac.tv v1.Arcs),.sl (List.map (TV.int .i64) v1.Leaders),.sl (List.map TV.str v1.Locks),.int .i64 v1.Start,.int .i64 v1.Delta]⟩) (hi0 : o0 < τ.next) (Q : TEx → au) (hQ0 : ∀ (fr : TF) (tk2 : TK) (τ2 : TH),∀ (u0 : TypeId),(r.length = 0 ∨ u0 = cy) → lkp fr 5 = .sla 0 (List.map (TV.int .i64) r) → tk2.take 1 = [some (r.length,u0)] → τ2.cut τ.next = τ → Q (.exit 0) fr tk2 τ2) ,tW G (.loop [1,2,5,6] u4) Q [(1,.int .i64 v0),(2,.ptr o0 0),(5,.sla 0 (List.map (TV.int .i64) v2)),(6,.int .i64 v3)] [some (n0,ty0)] τ
theorem zdgq (v0 : Int) (v1 : aa) (v2 : (List Int)) (v3 : Int) (r : (List Int)) (h : nf v0 v1 v2 v3 = some r) : rm v0 v1 v2 v3 r := by
 refine bf (f := fun st => fh v0 v1 st.1 st.2) (P := fun st r => ∀ (v2 : (List Int)) (v3 : Int),(v2,v3) = st → rm v0 v1 v2 v3 r) ?_ h v2 v3 rfl
 clear h r v3 v2
 intro st o h r ih v2 v3 hst τ o0 n0 ty0 hnn0 hty0 hl ha0 hi0 Q hQ0
 subst hst
 have h : fh v0 v1 v2 v3 = some o := h
 unfold fh at h
 subst hnn0
 refine jo fun LQ hn hr he => ?_
 by_cases c1 : v3 < ((v1.Arcs.length : Nat) : Int)
 · rw [if_pos c1] at h
   obtain ⟨y2,hy2,h⟩ := ob h
   have k3 := zb64 v1 _ hy2
   try simp only [CL,MC,reduceToNat] at k3
   by_cases c4 : y2 = true
   · rw [if_pos c4] at h
     obtain ⟨y5,hy5,h⟩ := ob h
     have f6 := aw hy5
     have f6a := (f6.2.2 ac.tv).1
     have f6b := (f6.2.2 ac.tv).2
     try simp only [CL] at f6 f6a f6b
     by_cases c7 : y5.From = v0
     · rw [if_pos c7] at h
       obtain ⟨c8,h⟩ := ifS h
       have f9 : 1 ≤ maxLen := by unfold maxLen; omega
       have f10 : v2.length + 1 ≤ maxLen := by unfold maxLen; omega
       have f11 : ((List.map (TV.int .i64) v2).all fun e => e.cells.length == 1) = true := zbmt (fun _ => rfl) _
       have f12 : List.map (TV.int .i64) v2 ++ List.map (TV.int .i64) [v3] = List.map (TV.int .i64) (v2 ++ [v3]) := zbu3 _ _
       try simp only [List.map_cons,List.map_nil] at f12
       injection h with h; subst h
       have ih := ih (v2 ++ [v3]) (IntKind.i64.wrap (v3 + (1 : Int))) rfl
       unfold rm at ih
       simp only [u4,zb68,TT,Ic.t,ci,reduceEqDiff,reduceAdd,reduceLT,reduceLeDiff,reduceCtorEq,hl,ha0,hi0,hty0,c1,k3,c4,f6.1,f6a,eq_true c7,c8,f9,f10,f11,f12]
       rw [hn]
       simp only [TT,reduceEqDiff,reduceLT,hi0]
       exact ih τ o0 (v2.length + 1) cy (by simp []) (by exact Or.inr rfl) (by assumption) (by simp only [ha0]) (by assumption) Q hQ0
     rw [if_neg c7] at h
     injection h with h; subst h
     have ih := ih v2 (IntKind.i64.wrap (v3 + (1 : Int))) rfl
     unfold rm at ih
     simp only [u4,zb68,TT,Ic.t,ci,reduceEqDiff,reduceAdd,reduceLT,reduceLeDiff,reduceCtorEq,hl,ha0,hi0,hty0,c1,k3,c4,f6.1,f6a,c7]
     rw [hn]
     simp only [TT,reduceEqDiff,reduceLT,hi0]
     exact ih τ o0 _ ty0 (by rfl) (by exact hty0) (by assumption) (by simp only [ha0]) (by assumption) Q hQ0
   rw [if_neg c4] at h
   have c4 := Bool.eq_false_iff.2 c4
   injection h with h; subst h
   obtain rfl : _ = r := ih
   simp only [u4,zb68,TT,Ic.t,ci,reduceEqDiff,reduceAdd,reduceCtorEq,hl,ha0,he,c1,k3,c4]
   exact hQ0 _ _ _ ty0 (by exact hty0) (by rfl) (by rfl) (by simp only [TT])
 rw [if_neg c1] at h
 injection h with h; subst h
 obtain rfl : _ = r := ih
 simp only [u4,zb68,TT,Ic.t,ci,reduceEqDiff,reduceCtorEq,ha0,he,c1]
 exact hQ0 _ _ _ ty0 (by exact hty0) (by rfl) (by rfl) (by simp only [TT])
def zb5n (p1 : aa) (p2 : Int) : Option (List Int) :=
 nf p2 p1 [] (0 : Int) >>= fun y1 =>
 some y1
theorem zcsc (p1 : aa) (p2 : Int) (r : (List Int)) (h : zb5n p1 p2 = some r) (τ : TH) (hl : τ.lock ≤ τ.next) : Ru G zb5j [.agg [.str p1.ID,.sl (List.map ag.tv p1.Parties),.sl (List.map ac.tv p1.Arcs),.sl (List.map (TV.int .i64) p1.Leaders),.sl (List.map TV.str p1.Locks),.int .i64 p1.Start,.int .i64 p1.Delta],.int .i64 p2] τ (.sl (List.map (TV.int .i64) r)) τ := by
 refine jv fun K hK => ?_
 rw [bh zdaf (Nat.le_of_ble_eq_true rfl)]
 unfold zb5n at h
 obtain ⟨y1,hy1,h⟩ := ob h
 simp only [zb68,TT,Ic.t,ci,reduceEqDiff,reduceAdd,reduceCtorEq]
 have Sy1 := zdgq p2 p1 [] (0 : Int) y1 hy1
 unfold rm at Sy1
 refine Sy1 _ τ.next 0 0 (by rfl) (by exact Or.inl rfl) (by simp only [aj,ap]; omega) (by simp only [TT]) (by simp only [aj]; omega) _ ?_
 intro frq2 tkq2 τq2 u0q2 uh0q2 g5q2 htq2 hcq2
 have hcq2 := az (n := τ.next + 1) hcq2 (by simp only [aj]; omega)
 try simp only [List.take_succ_cons,List.take_zero,List.take_nil,CL] at htq2
 try simp only [TT] at hcq2
 injection h with h; subst h
 simp only [TT,reduceLT,g5q2,htq2,hcq2]
 exact hK
theorem zdep (p1 : aa) (p2 : Int) (r : (List Int)) (h : zb5n p1 p2 = some r) (lk : Bool) (d : Option Nat) (K : au) (fr : TF) (tk : TK) (τ : TH) (hl : τ.lock ≤ τ.next) : eo G lk zb5j [.agg [.str p1.ID,.sl (List.map ag.tv p1.Parties),.sl (List.map ac.tv p1.Arcs),.sl (List.map (TV.int .i64) p1.Leaders),.sl (List.map TV.str p1.Locks),.int .i64 p1.Start,.int .i64 p1.Delta],.int .i64 p2] d K fr tk τ = K (fv fr d (.sl (List.map (TV.int .i64) r))) tk τ :=
 av (zcsc p1 p2 r h τ hl) (zcsc p1 p2 r h (τ.locked τ.next) (Nat.le_refl _) ) (by simp only [TT])
def xo (p1 : aa) (p2 : (List Int)) (p3 : Int) : Option Bool :=
 qw p1 >>= fun y1 =>
 if y1 = true then
  if (12 : Int) < ((p2.length : Nat) : Int) then
   up >>= fun y5 =>
   some y5
  else
  pd p1 >>= fun y7 =>
  uf p1 >>= fun y9 =>
  if (y7 == y9) = true then
   mg p1 >>= fun y12 =>
   pk p1 >>= fun y14 =>
   if (y12 == y14) = true then
    ov p1 >>= fun y17 =>
    zb5o p1 >>= fun y19 =>
    if (y17 == y19) = true then
     qd p1 p2 >>= fun y22 =>
     zb49 p1 p2 >>= fun y24 =>
     if (y22 == y24) = true then
      qk p1 p3 >>= fun y27 =>
      zb5m p1 p3 >>= fun y29 =>
      pm y27 y29 >>= fun y31 =>
      if y31 = true then
       qj p1 p3 >>= fun y34 =>
       zb5n p1 p3 >>= fun y36 =>
       pm y34 y36 >>= fun y38 =>
       if y38 = true then
        up >>= fun y41 =>
        some y41
       else
       some false
      else
      some false
     else
     some false
    else
    some false
   else
   some false
  else
  some false
 else
 up >>= fun y43 =>
 some y43
theorem zddt (p1 : aa) (p2 : (List Int)) (p3 : Int) (r : Bool) (h : xo p1 p2 p3 = some r) (τ : TH) (hl : τ.lock ≤ τ.next) : Ru G r6 [.agg [.str p1.ID,.sl (List.map ag.tv p1.Parties),.sl (List.map ac.tv p1.Arcs),.sl (List.map (TV.int .i64) p1.Leaders),.sl (List.map TV.str p1.Locks),.int .i64 p1.Start,.int .i64 p1.Delta],.sl (List.map (TV.int .i64) p2),.int .i64 p3] τ (.bool r) τ := by
 refine jv fun K hK => ?_
 rw [bh zdfo (Nat.le_of_ble_eq_true rfl)]
 unfold xo at h
 obtain ⟨y1,hy1,h⟩ := ob h
 have k2 := zdfx p1 _ hy1
 try simp only [CL,MC,reduceToNat] at k2
 by_cases c3 : y1 = true
 · rw [if_pos c3] at h
   by_cases c4 : (12 : Int) < ((p2.length : Nat) : Int)
   · rw [if_pos c4] at h
     obtain ⟨y5,hy5,h⟩ := ob h
     have k6 := zce1 _ hy5
     try simp only [CL,MC,reduceToNat] at k6
     injection h with h; subst h
     simp only [lx,TT,Ic.t,ci,reduceEqDiff,reduceAdd,reduceCtorEq,hl,k2,c3,c4,k6]
     first | exact hK | (simp only [hl,k2,c3,c4,k6,CL] at hK; exact hK)
   rw [if_neg c4] at h
   obtain ⟨y7,hy7,h⟩ := ob h
   have k8 := zc0m p1 _ hy7
   try simp only [CL,MC,reduceToNat] at k8
   obtain ⟨y9,hy9,h⟩ := ob h
   have k10 := zcu7 p1 _ hy9
   try simp only [CL,MC,reduceToNat] at k10
   by_cases c11 : (y7 == y9) = true
   · rw [if_pos c11] at h
     obtain ⟨y12,hy12,h⟩ := ob h
     have k13 := zc3m p1 _ hy12
     try simp only [CL,MC,reduceToNat] at k13
     obtain ⟨y14,hy14,h⟩ := ob h
     have k15 := zc0j p1 _ hy14
     try simp only [CL,MC,reduceToNat] at k15
     by_cases c16 : (y12 == y14) = true
     · rw [if_pos c16] at h
       obtain ⟨y17,hy17,h⟩ := ob h
       have k18 := zcfq p1 _ hy17
       try simp only [CL,MC,reduceToNat] at k18
       obtain ⟨y19,hy19,h⟩ := ob h
       have k20 := zdeq p1 _ hy19
       try simp only [CL,MC,reduceToNat] at k20
       by_cases c21 : (y17 == y19) = true
       · rw [if_pos c21] at h
         obtain ⟨y22,hy22,h⟩ := ob h
         have k23 := zcfd p1 p2 _ hy22
         try simp only [CL,MC,reduceToNat] at k23
         obtain ⟨y24,hy24,h⟩ := ob h
         have k25 := zda3 p1 p2 _ hy24
         try simp only [CL,MC,reduceToNat] at k25
         by_cases c26 : (y22 == y24) = true
         · rw [if_pos c26] at h
           obtain ⟨y27,hy27,h⟩ := ob h
           have k28 := zcx7 p1 p3 _ hy27
           try simp only [CL,MC,reduceToNat] at k28
           obtain ⟨y29,hy29,h⟩ := ob h
           have k30 := zdeo p1 p3 _ hy29
           try simp only [CL,MC,reduceToNat] at k30
           obtain ⟨y31,hy31,h⟩ := ob h
           have k32 := zc0h y27 y29 _ hy31
           try simp only [CL,MC,reduceToNat] at k32
           by_cases c33 : y31 = true
           · rw [if_pos c33] at h
             obtain ⟨y34,hy34,h⟩ := ob h
             have k35 := zcx9 p1 p3 _ hy34
             try simp only [CL,MC,reduceToNat] at k35
             obtain ⟨y36,hy36,h⟩ := ob h
             have k37 := zdep p1 p3 _ hy36
             try simp only [CL,MC,reduceToNat] at k37
             obtain ⟨y38,hy38,h⟩ := ob h
             have k39 := zc0h y34 y36 _ hy38
             try simp only [CL,MC,reduceToNat] at k39
             by_cases c40 : y38 = true
             · rw [if_pos c40] at h
               obtain ⟨y41,hy41,h⟩ := ob h
               have k42 := zce1 _ hy41
               try simp only [CL,MC,reduceToNat] at k42
               injection h with h; subst h
               simp only [lx,TT,Ic.t,ci,reduceEqDiff,reduceAdd,reduceCtorEq,hl,k2,c3,c4,k8,k10,c11,k13,k15,c16,k18,k20,c21,k23,k25,c26,k28,k30,k32,c33,k35,k37,k39,c40,k42]
               first | exact hK | (simp only [hl,k2,c3,c4,k8,k10,c11,k13,k15,c16,k18,k20,c21,k23,k25,c26,k28,k30,k32,c33,k35,k37,k39,c40,k42,CL] at hK; exact hK)
             rw [if_neg c40] at h
             have c40 := Bool.eq_false_iff.2 c40
             injection h with h; subst h
             simp only [lx,TT,Ic.t,ci,reduceEqDiff,reduceAdd,reduceCtorEq,hl,k2,c3,c4,k8,k10,c11,k13,k15,c16,k18,k20,c21,k23,k25,c26,k28,k30,k32,c33,k35,k37,k39,c40]
             first | exact hK | (simp only [hl,k2,c3,c4,k8,k10,c11,k13,k15,c16,k18,k20,c21,k23,k25,c26,k28,k30,k32,c33,k35,k37,k39,c40,CL] at hK; exact hK)
           rw [if_neg c33] at h
           have c33 := Bool.eq_false_iff.2 c33
           injection h with h; subst h
           simp only [lx,TT,Ic.t,ci,reduceEqDiff,reduceAdd,reduceCtorEq,hl,k2,c3,c4,k8,k10,c11,k13,k15,c16,k18,k20,c21,k23,k25,c26,k28,k30,k32,c33]
           first | exact hK | (simp only [hl,k2,c3,c4,k8,k10,c11,k13,k15,c16,k18,k20,c21,k23,k25,c26,k28,k30,k32,c33,CL] at hK; exact hK)
         rw [if_neg c26] at h
         have c26 := Bool.eq_false_iff.2 c26
         injection h with h; subst h
         simp only [lx,TT,Ic.t,ci,reduceEqDiff,reduceAdd,reduceCtorEq,hl,k2,c3,c4,k8,k10,c11,k13,k15,c16,k18,k20,c21,k23,k25,c26]
         first | exact hK | (simp only [hl,k2,c3,c4,k8,k10,c11,k13,k15,c16,k18,k20,c21,k23,k25,c26,CL] at hK; exact hK)
       rw [if_neg c21] at h
       have c21 := Bool.eq_false_iff.2 c21
       injection h with h; subst h
       simp only [lx,TT,Ic.t,ci,reduceEqDiff,reduceAdd,reduceCtorEq,hl,k2,c3,c4,k8,k10,c11,k13,k15,c16,k18,k20,c21]
       first | exact hK | (simp only [hl,k2,c3,c4,k8,k10,c11,k13,k15,c16,k18,k20,c21,CL] at hK; exact hK)
     rw [if_neg c16] at h
     have c16 := Bool.eq_false_iff.2 c16
     injection h with h; subst h
     simp only [lx,TT,Ic.t,ci,reduceEqDiff,reduceAdd,reduceCtorEq,hl,k2,c3,c4,k8,k10,c11,k13,k15,c16]
     first | exact hK | (simp only [hl,k2,c3,c4,k8,k10,c11,k13,k15,c16,CL] at hK; exact hK)
   rw [if_neg c11] at h
   have c11 := Bool.eq_false_iff.2 c11
   injection h with h; subst h
   simp only [lx,TT,Ic.t,ci,reduceEqDiff,reduceAdd,reduceCtorEq,hl,k2,c3,c4,k8,k10,c11]
   first | exact hK | (simp only [hl,k2,c3,c4,k8,k10,c11,CL] at hK; exact hK)
 rw [if_neg c3] at h
 have c3 := Bool.eq_false_iff.2 c3
 obtain ⟨y43,hy43,h⟩ := ob h
 have k44 := zce1 _ hy43
 try simp only [CL,MC,reduceToNat] at k44
 injection h with h; subst h
 simp only [lx,TT,Ic.t,ci,reduceEqDiff,reduceAdd,reduceCtorEq,hl,k2,c3,k44]
 first | exact hK | (simp only [hl,k2,c3,k44,CL] at hK; exact hK)
end
end Go.Proofs.Ytdcfoaafkppojaa
