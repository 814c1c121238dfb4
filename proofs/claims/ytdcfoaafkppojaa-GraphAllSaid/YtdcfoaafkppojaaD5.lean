import Derived.Test.YtdcfoaafkppojaaHReach
set_option linter.unusedVariables false
set_option linter.unusedSimpArgs false
set_option linter.unusedSectionVars false
open Nat (reduceEqDiff reduceAdd reduceMul reduceLT reduceLeDiff reduceSub)
open Int (reduceToNat reduceNe reduceEq reduceNeg reduceLE)
namespace Go.Proofs.Ytdcfoaafkppojaa
open Go Go.RowKit Sh Ic
noncomputable section
def u6 (p1 : aa) (p2 : Int) (p3 : Bool) : Option (List Bool) := reF p1 p2 p3 fun v => rx v
theorem zcyd (p1 : aa) (p2 : Int) (p3 : Bool) (r : (List Bool)) (h : u6 p1 p2 p3 = some r) (τ : TH) (hl : τ.lock ≤ τ.next) : Ru G kj [.agg [.str p1.ID,.sl (List.map ag.tv p1.Parties),.sl (List.map ac.tv p1.Arcs),.sl (List.map (TV.int .i64) p1.Leaders),.sl (List.map TV.str p1.Locks),.int .i64 p1.Start,.int .i64 p1.Delta],.int .i64 p2,.bool p3,.func j9 [] []] τ (.sl (List.map TV.bool r)) τ :=
 zcl0 τ hl p1 p2 p3 j9 [] _ ⟨fun n hn => ⟨by first | rfl | (simp [iy,TV.under]; omega),by first | rfl | (simp [ltL,TV.lt]; omega)⟩,fun v r hv lk d K fr tk τ2 h1 h2 h3 => zdb3 v r hv lk d K fr tk τ2 (by rw [h1]; exact Nat.le_trans hl h2) ⟩ r h
theorem zcyc (p1 : aa) (p2 : Int) (p3 : Bool) (r : (List Bool)) (h : u6 p1 p2 p3 = some r) (lk : Bool) (d : Option Nat) (K : au) (fr : TF) (tk : TK) (τ : TH) (hl : τ.lock ≤ τ.next) : eo G lk kj [.agg [.str p1.ID,.sl (List.map ag.tv p1.Parties),.sl (List.map ac.tv p1.Arcs),.sl (List.map (TV.int .i64) p1.Leaders),.sl (List.map TV.str p1.Locks),.int .i64 p1.Start,.int .i64 p1.Delta],.int .i64 p2,.bool p3,.func j9 [] []] d K fr tk τ = K (fv fr d (.sl (List.map TV.bool r))) tk τ :=
 av (zcyd p1 p2 p3 r h τ hl) (zcyd p1 p2 p3 r h (τ.locked τ.next) (Nat.le_refl _) ) (by simp only [TT])
def bg (v0 : (List Bool)) (v1 : Bool) (v2 : Int) (v3 : Int) : Option (LS (Int) (LX (Unit) (Int))) :=
 if v3 < v2 then
  ixL v0 v3 >>= fun y2 =>
  if (v1 == y2) = true then
   some (.dn (.rt v3))
  else
  some (.nx (IntKind.i64.wrap (v3 + (1 : Int))))
 else
 some (.dn (.ex ()))
def ee (v0 : (List Bool)) (v1 : Bool) (v2 : Int) (v3 : Int) : Option (LX (Unit) (Int)) := kx (fun st => bg v0 v1 v2 st) v3
theorem qc (v0 : (List Bool)) (v1 : Bool) (v2 : Int) (v3 : Int) : ee v0 v1 v2 v3 = bg v0 v1 v2 v3 >>= LS.go (fun st => ee v0 v1 v2 st) := bu (fun st => bg v0 v1 v2 st) v3
def jf (v0 : (List Bool)) (v1 : Bool) (v2 : Int) (v3 : Int) (r : LX (Unit) (Int)) : Prop := ∀ (τ : TH) (hl : τ.lock ≤ τ.next) (Q : TEx → au) (hQ0 : ∀ v : Unit,r = (.ex v) → ∀ (fr : TF) (tk2 : TK) (τ2 : TH),tk2.take 0 = [] → τ2.cut τ.next = τ → Q (.exit 0) fr tk2 τ2) (hQ1 : ∀ v : Int,r = (.rt v) → ∀ (tk2 : TK) (τ2 : TH),τ2.cut τ.next = τ → Q .ret [(4,.int .i64 v)] tk2 τ2) ,tW G (.loop [0,1,7,8] ip) Q [(0,.sl (List.map TV.bool v0)),(1,.bool v1),(7,.int .i64 v2),(8,.int .i64 v3)] [] τ
theorem zddx (v0 : (List Bool)) (v1 : Bool) (v2 : Int) (v3 : Int) (r : LX (Unit) (Int)) (h : ee v0 v1 v2 v3 = some r) : jf v0 v1 v2 v3 r := by
 refine bf (f := fun st => bg v0 v1 v2 st) (P := fun st r => ∀ (v3 : Int),v3 = st → jf v0 v1 v2 v3 r) ?_ h v3 rfl
 clear h r v3
 intro st o h r ih v3 hst τ hl Q hQ0 hQ1
 subst hst
 have h : bg v0 v1 v2 v3 = some o := h
 unfold bg at h
 refine jo fun LQ hn hr he => ?_
 by_cases c1 : v3 < v2
 · rw [if_pos c1] at h
   obtain ⟨y2,hy2,h⟩ := ob h
   have f3 := aw hy2
   have f3a := (f3.2.2 TV.bool).1
   have f3b := (f3.2.2 TV.bool).2
   try simp only [CL,MC,reduceToNat] at f3 f3a f3b
   by_cases c4 : (v1 == y2) = true
   · rw [if_pos c4] at h
     injection h with h; subst h
     obtain rfl : _ = r := ih
     simp only [ip,gt,TT,Ic.t,ci,reduceEqDiff,reduceCtorEq,he,hr,c1,f3.1,f3.2.1,f3a,c4]
     exact hQ1 v3 rfl _ _ (by simp only [TT])
   rw [if_neg c4] at h
   have c4 := Bool.eq_false_iff.2 c4
   injection h with h; subst h
   have ih := ih (IntKind.i64.wrap (v3 + (1 : Int))) rfl
   unfold jf at ih
   simp only [ip,gt,TT,Ic.t,ci,reduceEqDiff,reduceCtorEq,c1,f3.1,f3.2.1,f3a,c4]
   rw [hn]
   simp only [TT,reduceEqDiff,reduceCtorEq]
   exact ih τ (by assumption) Q hQ0 hQ1
 rw [if_neg c1] at h
 injection h with h; subst h
 obtain rfl : _ = r := ih
 simp only [ip,gt,TT,Ic.t,ci,reduceEqDiff,reduceCtorEq,he,c1]
 exact hQ0 () rfl _ _ _ (by rfl) (by simp only [TT])
def jp (p1 : (List Bool)) (p2 : Bool) : Option Int :=
 ee p1 p2 ((p1.length : Nat) : Int) (0 : Int) >>= fun y1 =>
 match y1 with
 | .ex w2 =>
  some (-1 : Int)
 | .rt w4 =>
  some w4
theorem vg (p1 : (List Bool)) (p2 : Bool) (r : Int) (h : jp p1 p2 = some r) (τ : TH) (hl : τ.lock ≤ τ.next) : Ru G gu [.sl (List.map TV.bool p1),.bool p2] τ (.int .i64 r) τ := by
 refine jv fun K hK => ?_
 rw [bh zdde (Nat.le_of_ble_eq_true rfl)]
 unfold jp at h
 obtain ⟨y1,hy1,h⟩ := ob h
 simp only [gt,TT,Ic.t,ci,reduceEqDiff,reduceAdd,reduceCtorEq]
 have Sy1 := zddx p1 p2 ((p1.length : Nat) : Int) (0 : Int) y1 hy1
 unfold jf at Sy1
 refine Sy1 _ (by assumption) _ ?_ ?_
 · intro w2 e frq3 tkq3 τq3 htq3 hcq3
   subst e
   simp only at h
   have hcq3 := az (n := τ.next) hcq3 (by omega)
   try simp only [List.take_zero] at htq3
   try simp only [TT] at hcq3
   injection h with h; subst h
   simp only [TT,hcq3]
   exact hK
 intro w4 e tkq5 τq5 hcq5
 subst e
 simp only at h
 have hcq5 := az (n := τ.next) hcq5 (by omega)
 try simp only [TT] at hcq5
 injection h with h; subst h
 simp only [TT,hcq5]
 exact hK
theorem zddn (p1 : (List Bool)) (p2 : Bool) (r : Int) (h : jp p1 p2 = some r) (lk : Bool) (d : Option Nat) (K : au) (fr : TF) (tk : TK) (τ : TH) (hl : τ.lock ≤ τ.next) : eo G lk gu [.sl (List.map TV.bool p1),.bool p2] d K fr tk τ = K (fv fr d (.int .i64 r)) tk τ :=
 av (vg p1 p2 r h τ hl) (vg p1 p2 r h (τ.locked τ.next) (Nat.le_refl _) ) (by simp only [TT])
def cv (p1 : (List Bool)) (p2 : Bool) : Option Bool :=
 jp p1 p2 >>= fun y1 =>
 some (decide ((0 : Int) ≤ y1))
theorem rb (p1 : (List Bool)) (p2 : Bool) (r : Bool) (h : cv p1 p2 = some r) (τ : TH) (hl : τ.lock ≤ τ.next) : Ru G cz [.sl (List.map TV.bool p1),.bool p2] τ (.bool r) τ := by
 refine jv fun K hK => ?_
 rw [bh zddp (Nat.le_of_ble_eq_true rfl)]
 unfold cv at h
 obtain ⟨y1,hy1,h⟩ := ob h
 have k2 := zddn p1 p2 _ hy1
 try simp only [CL,MC,reduceToNat] at k2
 injection h with h; subst h
 simp only [zddo,TT,Ic.t,ci,reduceEqDiff,reduceAdd,reduceCtorEq,hl,k2]
 exact hK
theorem rc (p1 : (List Bool)) (p2 : Bool) (r : Bool) (h : cv p1 p2 = some r) (lk : Bool) (d : Option Nat) (K : au) (fr : TF) (tk : TK) (τ : TH) (hl : τ.lock ≤ τ.next) : eo G lk cz [.sl (List.map TV.bool p1),.bool p2] d K fr tk τ = K (fv fr d (.bool r)) tk τ :=
 av (rb p1 p2 r h τ hl) (rb p1 p2 r h (τ.locked τ.next) (Nat.le_refl _) ) (by simp only [TT])
def pd (p1 : aa) : Option Bool :=
 mv p1 >>= fun y1 =>
 if y1 = true then
  u6 p1 (0 : Int) false >>= fun y4 =>
  cv y4 false >>= fun y6 =>
  if y6 = true then
   some false
  else
  u6 p1 (0 : Int) true >>= fun y9 =>
  cv y9 false >>= fun y11 =>
  some (!y11)
 else
 some false
theorem zc0n (p1 : aa) (r : Bool) (h : pd p1 = some r) (τ : TH) (hl : τ.lock ≤ τ.next) : Ru G po [.agg [.str p1.ID,.sl (List.map ag.tv p1.Parties),.sl (List.map ac.tv p1.Arcs),.sl (List.map (TV.int .i64) p1.Leaders),.sl (List.map TV.str p1.Locks),.int .i64 p1.Start,.int .i64 p1.Delta]] τ (.bool r) τ := by
 refine jv fun K hK => ?_
 rw [bh zdfs (Nat.le_of_ble_eq_true rfl)]
 unfold pd at h
 obtain ⟨y1,hy1,h⟩ := ob h
 have k2 := wx p1 _ hy1
 try simp only [CL,MC,reduceToNat] at k2
 by_cases c3 : y1 = true
 · rw [if_pos c3] at h
   obtain ⟨y4,hy4,h⟩ := ob h
   have k5 := zcyc p1 (0 : Int) false _ hy4
   try simp only [CL,MC,reduceToNat] at k5
   obtain ⟨y6,hy6,h⟩ := ob h
   have k7 := rc y4 false _ hy6
   try simp only [CL,MC,reduceToNat] at k7
   by_cases c8 : y6 = true
   · rw [if_pos c8] at h
     injection h with h; subst h
     simp only [zcfo,TT,Ic.t,ci,reduceEqDiff,reduceAdd,reduceCtorEq,hl,k2,c3,k5,k7,c8]
     first | exact hK | (simp only [hl,k2,c3,k5,k7,c8,CL] at hK; exact hK)
   rw [if_neg c8] at h
   have c8 := Bool.eq_false_iff.2 c8
   obtain ⟨y9,hy9,h⟩ := ob h
   have k10 := zcyc p1 (0 : Int) true _ hy9
   try simp only [CL,MC,reduceToNat] at k10
   obtain ⟨y11,hy11,h⟩ := ob h
   have k12 := rc y9 false _ hy11
   try simp only [CL,MC,reduceToNat] at k12
   injection h with h; subst h
   simp only [zcfo,TT,Ic.t,ci,reduceEqDiff,reduceAdd,reduceCtorEq,hl,k2,c3,k5,k7,c8,k10,k12]
   first | exact hK | (simp only [hl,k2,c3,k5,k7,c8,k10,k12,CL] at hK; exact hK)
 rw [if_neg c3] at h
 have c3 := Bool.eq_false_iff.2 c3
 injection h with h; subst h
 simp only [zcfo,TT,Ic.t,ci,reduceEqDiff,reduceAdd,reduceCtorEq,hl,k2,c3]
 first | exact hK | (simp only [hl,k2,c3,CL] at hK; exact hK)
theorem zc0m (p1 : aa) (r : Bool) (h : pd p1 = some r) (lk : Bool) (d : Option Nat) (K : au) (fr : TF) (tk : TK) (τ : TH) (hl : τ.lock ≤ τ.next) : eo G lk po [.agg [.str p1.ID,.sl (List.map ag.tv p1.Parties),.sl (List.map ac.tv p1.Arcs),.sl (List.map (TV.int .i64) p1.Leaders),.sl (List.map TV.str p1.Locks),.int .i64 p1.Start,.int .i64 p1.Delta]] d K fr tk τ = K (fv fr d (.bool r)) tk τ :=
 av (zc0n p1 r h τ hl) (zc0n p1 r h (τ.locked τ.next) (Nat.le_refl _) ) (by simp only [TT])
def bk (v0 : (List Int)) (v1 : Int) (v2 : Int) (v3 : Int) : Option (LS (Int) (LX (Unit) (Int))) :=
 if v3 < v2 then
  ixL v0 v3 >>= fun y2 =>
  if v1 = y2 then
   some (.dn (.rt v3))
  else
  some (.nx (IntKind.i64.wrap (v3 + (1 : Int))))
 else
 some (.dn (.ex ()))
def ft (v0 : (List Int)) (v1 : Int) (v2 : Int) (v3 : Int) : Option (LX (Unit) (Int)) := kx (fun st => bk v0 v1 v2 st) v3
theorem sd (v0 : (List Int)) (v1 : Int) (v2 : Int) (v3 : Int) : ft v0 v1 v2 v3 = bk v0 v1 v2 v3 >>= LS.go (fun st => ft v0 v1 v2 st) := bu (fun st => bk v0 v1 v2 st) v3
def kb (v0 : (List Int)) (v1 : Int) (v2 : Int) (v3 : Int) (r : LX (Unit) (Int)) : Prop := ∀ (τ : TH) (hl : τ.lock ≤ τ.next) (Q : TEx → au) (hQ0 : ∀ v : Unit,r = (.ex v) → ∀ (fr : TF) (tk2 : TK) (τ2 : TH),tk2.take 0 = [] → τ2.cut τ.next = τ → Q (.exit 0) fr tk2 τ2) (hQ1 : ∀ v : Int,r = (.rt v) → ∀ (tk2 : TK) (τ2 : TH),τ2.cut τ.next = τ → Q .ret [(4,.int .i64 v)] tk2 τ2) ,tW G (.loop [0,1,7,8] jq) Q [(0,.sl (List.map (TV.int .i64) v0)),(1,.int .i64 v1),(7,.int .i64 v2),(8,.int .i64 v3)] [] τ
theorem zddq (v0 : (List Int)) (v1 : Int) (v2 : Int) (v3 : Int) (r : LX (Unit) (Int)) (h : ft v0 v1 v2 v3 = some r) : kb v0 v1 v2 v3 r := by
 refine bf (f := fun st => bk v0 v1 v2 st) (P := fun st r => ∀ (v3 : Int),v3 = st → kb v0 v1 v2 v3 r) ?_ h v3 rfl
 clear h r v3
 intro st o h r ih v3 hst τ hl Q hQ0 hQ1
 subst hst
 have h : bk v0 v1 v2 v3 = some o := h
 unfold bk at h
 refine jo fun LQ hn hr he => ?_
 by_cases c1 : v3 < v2
 · rw [if_pos c1] at h
   obtain ⟨y2,hy2,h⟩ := ob h
   have f3 := aw hy2
   have f3a := (f3.2.2 (TV.int .i64)).1
   have f3b := (f3.2.2 (TV.int .i64)).2
   try simp only [CL,MC,reduceToNat] at f3 f3a f3b
   by_cases c4 : v1 = y2
   · rw [if_pos c4] at h
     injection h with h; subst h
     obtain rfl : _ = r := ih
     simp only [jq,iv,TT,Ic.t,ci,reduceEqDiff,reduceCtorEq,he,hr,c1,f3.1,f3.2.1,f3a,eq_true c4]
     exact hQ1 v3 rfl _ _ (by simp only [TT])
   rw [if_neg c4] at h
   injection h with h; subst h
   have ih := ih (IntKind.i64.wrap (v3 + (1 : Int))) rfl
   unfold kb at ih
   simp only [jq,iv,TT,Ic.t,ci,reduceEqDiff,reduceCtorEq,c1,f3.1,f3.2.1,f3a,c4]
   rw [hn]
   simp only [TT,reduceEqDiff,reduceCtorEq]
   exact ih τ (by assumption) Q hQ0 hQ1
 rw [if_neg c1] at h
 injection h with h; subst h
 obtain rfl : _ = r := ih
 simp only [jq,iv,TT,Ic.t,ci,reduceEqDiff,reduceCtorEq,he,c1]
 exact hQ0 () rfl _ _ _ (by rfl) (by simp only [TT])
def ky (p1 : (List Int)) (p2 : Int) : Option Int :=
 ft p1 p2 ((p1.length : Nat) : Int) (0 : Int) >>= fun y1 =>
 match y1 with
 | .ex w2 =>
  some (-1 : Int)
 | .rt w4 =>
  some w4
theorem zc (p1 : (List Int)) (p2 : Int) (r : Int) (h : ky p1 p2 = some r) (τ : TH) (hl : τ.lock ≤ τ.next) : Ru G ix [.sl (List.map (TV.int .i64) p1),.int .i64 p2] τ (.int .i64 r) τ := by
 refine jv fun K hK => ?_
 rw [bh zddb (Nat.le_of_ble_eq_true rfl)]
 unfold ky at h
 obtain ⟨y1,hy1,h⟩ := ob h
 simp only [iv,TT,Ic.t,ci,reduceEqDiff,reduceAdd,reduceCtorEq]
 have Sy1 := zddq p1 p2 ((p1.length : Nat) : Int) (0 : Int) y1 hy1
 unfold kb at Sy1
 refine Sy1 _ (by assumption) _ ?_ ?_
 · intro w2 e frq3 tkq3 τq3 htq3 hcq3
   subst e
   simp only at h
   have hcq3 := az (n := τ.next) hcq3 (by omega)
   try simp only [List.take_zero] at htq3
   try simp only [TT] at hcq3
   injection h with h; subst h
   simp only [TT,hcq3]
   exact hK
 intro w4 e tkq5 τq5 hcq5
 subst e
 simp only at h
 have hcq5 := az (n := τ.next) hcq5 (by omega)
 try simp only [TT] at hcq5
 injection h with h; subst h
 simp only [TT,hcq5]
 exact hK
theorem zddg (p1 : (List Int)) (p2 : Int) (r : Int) (h : ky p1 p2 = some r) (lk : Bool) (d : Option Nat) (K : au) (fr : TF) (tk : TK) (τ : TH) (hl : τ.lock ≤ τ.next) : eo G lk ix [.sl (List.map (TV.int .i64) p1),.int .i64 p2] d K fr tk τ = K (fv fr d (.int .i64 r)) tk τ :=
 av (zc p1 p2 r h τ hl) (zc p1 p2 r h (τ.locked τ.next) (Nat.le_refl _) ) (by simp only [TT])
def dq (p1 : (List Int)) (p2 : Int) : Option Bool :=
 ky p1 p2 >>= fun y1 =>
 some (decide ((0 : Int) ≤ y1))
theorem tn (p1 : (List Int)) (p2 : Int) (r : Bool) (h : dq p1 p2 = some r) (τ : TH) (hl : τ.lock ≤ τ.next) : Ru G dt [.sl (List.map (TV.int .i64) p1),.int .i64 p2] τ (.bool r) τ := by
 refine jv fun K hK => ?_
 rw [bh zddh (Nat.le_of_ble_eq_true rfl)]
 unfold dq at h
 obtain ⟨y1,hy1,h⟩ := ob h
 have k2 := zddg p1 p2 _ hy1
 try simp only [CL,MC,reduceToNat] at k2
 injection h with h; subst h
 simp only [zddj,TT,Ic.t,ci,reduceEqDiff,reduceAdd,reduceCtorEq,hl,k2]
 exact hK
theorem tp (p1 : (List Int)) (p2 : Int) (r : Bool) (h : dq p1 p2 = some r) (lk : Bool) (d : Option Nat) (K : au) (fr : TF) (tk : TK) (τ : TH) (hl : τ.lock ≤ τ.next) : eo G lk dt [.sl (List.map (TV.int .i64) p1),.int .i64 p2] d K fr tk τ = K (fv fr d (.bool r)) tk τ :=
 av (tn p1 p2 r h τ hl) (tn p1 p2 r h (τ.locked τ.next) (Nat.le_refl _) ) (by simp only [TT])
def gi (p1 : Int) (p2 : aa) : Option Bool :=
 dq p2.Leaders p1 >>= fun y1 =>
 some (!y1)
theorem zc3x (p1 : Int) (p2 : aa) (r : Bool) (h : gi p1 p2 = some r) (τ : TH) (o0 : Nat) (hl : τ.lock ≤ τ.next) (ha0 : τ.at o0 = some ⟨am,[.str p2.ID,.sl (List.map ag.tv p2.Parties),.sl (List.map ac.tv p2.Arcs),.sl (List.map (TV.int .i64) p2.Leaders),.sl (List.map TV.str p2.Locks),.int .i64 p2.Start,.int .i64 p2.Delta]⟩) (hi0 : o0 < τ.next) : Ru G en [.int .i64 p1,.ptr o0 0] τ (.bool r) τ := by
 refine jv fun K hK => ?_
 rw [bh zdcx (Nat.le_of_ble_eq_true rfl)]
 unfold gi at h
 obtain ⟨y1,hy1,h⟩ := ob h
 have k2 := tp p2.Leaders p1 _ hy1
 try simp only [CL,MC,reduceToNat] at k2
 injection h with h; subst h
 simp only [zdc1,TT,Ic.t,reduceEqDiff,reduceAdd,reduceCtorEq,hl,ha0,k2]
 exact hK
theorem zc3w (p1 : Int) (p2 : aa) (r : Bool) (h : gi p1 p2 = some r) (lk : Bool) (d : Option Nat) (K : au) (fr : TF) (tk : TK) (τ : TH) (o0 : Nat) (hl : τ.lock ≤ τ.next) (ha0 : τ.at o0 = some ⟨am,[.str p2.ID,.sl (List.map ag.tv p2.Parties),.sl (List.map ac.tv p2.Arcs),.sl (List.map (TV.int .i64) p2.Leaders),.sl (List.map TV.str p2.Locks),.int .i64 p2.Start,.int .i64 p2.Delta]⟩) (hi0 : o0 < τ.next) : eo G lk en [.int .i64 p1,.ptr o0 0] d K fr tk τ = K (fv fr d (.bool r)) tk τ :=
 av (zc3x p1 p2 r h τ o0 hl ha0 hi0) (zc3x p1 p2 r h (τ.locked τ.next) o0 (Nat.le_refl _) (by rw [zbls]; exact ha0) hi0) (by simp only [TT,hi0])
def xc (p1 : aa) (p2 : Int) (p3 : Bool) (p4 : aa) : Option (List Bool) := reF p1 p2 p3 fun v => gi v p4
theorem zc0p (p1 : aa) (p2 : Int) (p3 : Bool) (p4 : aa) (r : (List Bool)) (h : xc p1 p2 p3 p4 = some r) (τ : TH) (o0 : Nat) (hl : τ.lock ≤ τ.next) (ha0 : τ.at o0 = some ⟨am,[.str p4.ID,.sl (List.map ag.tv p4.Parties),.sl (List.map ac.tv p4.Arcs),.sl (List.map (TV.int .i64) p4.Leaders),.sl (List.map TV.str p4.Locks),.int .i64 p4.Start,.int .i64 p4.Delta]⟩) (hi0 : o0 < τ.next) : Ru G kj [.agg [.str p1.ID,.sl (List.map ag.tv p1.Parties),.sl (List.map ac.tv p1.Arcs),.sl (List.map (TV.int .i64) p1.Leaders),.sl (List.map TV.str p1.Locks),.int .i64 p1.Start,.int .i64 p1.Delta],.int .i64 p2,.bool p3,.func en [] [.ptr o0 0]] τ (.sl (List.map TV.bool r)) τ :=
 zcl0 τ hl p1 p2 p3 en [.ptr o0 0] _ ⟨fun n hn => ⟨by first | rfl | (simp [iy,TV.under]; omega),by first | rfl | (simp [ltL,TV.lt]; omega)⟩,fun v r hv lk d K fr tk τ2 h1 h2 h3 => zc3w v p4 r hv lk d K fr tk τ2 o0 (by rw [h1]; exact Nat.le_trans hl h2) (by rw [← zb6o hi0,h3]; exact ha0) (Nat.lt_of_lt_of_le hi0 h2)⟩ r h
theorem zdb4 (p1 : aa) (p2 : Int) (p3 : Bool) (p4 : aa) (r : (List Bool)) (h : xc p1 p2 p3 p4 = some r) (lk : Bool) (d : Option Nat) (K : au) (fr : TF) (tk : TK) (τ : TH) (o0 : Nat) (hl : τ.lock ≤ τ.next) (ha0 : τ.at o0 = some ⟨am,[.str p4.ID,.sl (List.map ag.tv p4.Parties),.sl (List.map ac.tv p4.Arcs),.sl (List.map (TV.int .i64) p4.Leaders),.sl (List.map TV.str p4.Locks),.int .i64 p4.Start,.int .i64 p4.Delta]⟩) (hi0 : o0 < τ.next) : eo G lk kj [.agg [.str p1.ID,.sl (List.map ag.tv p1.Parties),.sl (List.map ac.tv p1.Arcs),.sl (List.map (TV.int .i64) p1.Leaders),.sl (List.map TV.str p1.Locks),.int .i64 p1.Start,.int .i64 p1.Delta],.int .i64 p2,.bool p3,.func en [] [.ptr o0 0]] d K fr tk τ = K (fv fr d (.sl (List.map TV.bool r))) tk τ :=
 av (zc0p p1 p2 p3 p4 r h τ o0 hl ha0 hi0) (zc0p p1 p2 p3 p4 r h (τ.locked τ.next) o0 (Nat.le_refl _) (by rw [zbls]; exact ha0) hi0) (by simp only [TT,hi0])
def ca (v0 : aa) (v1 : Int) (v2 : Int) : Option (LS (Int) (LX (Unit) (Bool))) :=
 if v2 < v1 then
  gi v2 v0 >>= fun y2 =>
  if y2 = true then
   xc v0 v2 false v0 >>= fun y5 =>
   ixL y5 v2 >>= fun y7 =>
   if y7 = true then
    some (.dn (.rt false))
   else
   some (.nx (IntKind.i64.wrap (v2 + (1 : Int))))
  else
  some (.nx (IntKind.i64.wrap (v2 + (1 : Int))))
 else
 some (.dn (.ex ()))
def cw (v0 : aa) (v1 : Int) (v2 : Int) : Option (LX (Unit) (Bool)) := kx (fun st => ca v0 v1 st) v2
theorem r7 (v0 : aa) (v1 : Int) (v2 : Int) : cw v0 v1 v2 = ca v0 v1 v2 >>= LS.go (fun st => cw v0 v1 st) := bu (fun st => ca v0 v1 st) v2
def l9 (v0 : aa) (v1 : Int) (v2 : Int) (r : LX (Unit) (Bool)) : Prop := ∀ (τ : TH) (o0 : Nat) (hl : τ.lock ≤ τ.next) (ha0 : τ.at o0 = some ⟨am,[.str v0.ID,.sl (List.map ag.tv v0.Parties),.sl (List.map ac.tv v0.Arcs),.sl (List.map (TV.int .i64) v0.Leaders),.sl (List.map TV.str v0.Locks),.int .i64 v0.Start,.int .i64 v0.Delta]⟩) (hi0 : o0 < τ.next) (Q : TEx → au) (hQ0 : ∀ v : Unit,r = (.ex v) → ∀ (fr : TF) (tk2 : TK) (τ2 : TH),tk2.take 0 = [] → τ2.cut τ.next = τ → Q (.exit 0) fr tk2 τ2) (hQ1 : ∀ v : Bool,r = (.rt v) → ∀ (tk2 : TK) (τ2 : TH),τ2.cut τ.next = τ → Q .ret [(2,.bool v)] tk2 τ2) ,tW G (.loop [1,3,11,12] me) Q [(1,.ptr o0 0),(3,.func en [] [.ptr o0 0]),(11,.int .i64 v1),(12,.int .i64 v2)] [] τ
theorem zdc9 (v0 : aa) (v1 : Int) (v2 : Int) (r : LX (Unit) (Bool)) (h : cw v0 v1 v2 = some r) : l9 v0 v1 v2 r := by
 refine bf (f := fun st => ca v0 v1 st) (P := fun st r => ∀ (v2 : Int),v2 = st → l9 v0 v1 v2 r) ?_ h v2 rfl
 clear h r v2
 intro st o h r ih v2 hst τ o0 hl ha0 hi0 Q hQ0 hQ1
 subst hst
 have h : ca v0 v1 v2 = some o := h
 unfold ca at h
 refine jo fun LQ hn hr he => ?_
 by_cases c1 : v2 < v1
 · rw [if_pos c1] at h
   obtain ⟨y2,hy2,h⟩ := ob h
   have k3 := zc3w v2 v0 _ hy2
   try simp only [CL,MC,reduceToNat] at k3
   by_cases c4 : y2 = true
   · rw [if_pos c4] at h
     obtain ⟨y5,hy5,h⟩ := ob h
     have k6 := zdb4 v0 v2 false v0 _ hy5
     try simp only [CL,MC,reduceToNat] at k6
     obtain ⟨y7,hy7,h⟩ := ob h
     have f8 := aw hy7
     have f8a := (f8.2.2 TV.bool).1
     have f8b := (f8.2.2 TV.bool).2
     try simp only [CL,MC,reduceToNat] at f8 f8a f8b
     by_cases c9 : y7 = true
     · rw [if_pos c9] at h
       injection h with h; subst h
       obtain rfl : _ = r := ih
       simp only [me,kq,TT,Ic.t,ci,reduceEqDiff,reduceAdd,reduceCtorEq,hl,ha0,hi0,he,hr,c1,k3,c4,k6,f8.1,f8.2.1,f8a,c9]
       exact hQ1 false rfl _ _ (by simp only [TT])
     rw [if_neg c9] at h
     have c9 := Bool.eq_false_iff.2 c9
     injection h with h; subst h
     have ih := ih (IntKind.i64.wrap (v2 + (1 : Int))) rfl
     unfold l9 at ih
     simp only [me,kq,TT,Ic.t,ci,reduceEqDiff,reduceAdd,reduceCtorEq,hl,ha0,hi0,c1,k3,c4,k6,f8.1,f8.2.1,f8a,c9]
     rw [hn]
     simp only [TT,reduceEqDiff,hi0]
     exact ih τ o0 (by assumption) (by simp only [ha0]) (by assumption) Q hQ0 hQ1
   rw [if_neg c4] at h
   have c4 := Bool.eq_false_iff.2 c4
   injection h with h; subst h
   have ih := ih (IntKind.i64.wrap (v2 + (1 : Int))) rfl
   unfold l9 at ih
   simp only [me,kq,TT,Ic.t,ci,reduceEqDiff,reduceCtorEq,hl,ha0,hi0,c1,k3,c4]
   rw [hn]
   simp only [TT,reduceEqDiff,hi0]
   exact ih τ o0 (by assumption) (by simp only [ha0]) (by assumption) Q hQ0 hQ1
 rw [if_neg c1] at h
 injection h with h; subst h
 obtain rfl : _ = r := ih
 simp only [me,kq,TT,Ic.t,ci,reduceEqDiff,reduceCtorEq,he,c1]
 exact hQ0 () rfl _ _ _ (by rfl) (by simp only [TT])
def mg (p1 : aa) : Option Bool :=
 mv p1 >>= fun y1 =>
 if y1 = true then
  cw p1 ((p1.Parties.length : Nat) : Int) (0 : Int) >>= fun y4 =>
  match y4 with
  | .ex w5 =>
   some true
  | .rt w7 =>
   some w7
 else
 some false
theorem zc3n (p1 : aa) (r : Bool) (h : mg p1 = some r) (τ : TH) (hl : τ.lock ≤ τ.next) : Ru G mj [.agg [.str p1.ID,.sl (List.map ag.tv p1.Parties),.sl (List.map ac.tv p1.Arcs),.sl (List.map (TV.int .i64) p1.Leaders),.sl (List.map TV.str p1.Locks),.int .i64 p1.Start,.int .i64 p1.Delta]] τ (.bool r) τ := by
 refine jv fun K hK => ?_
 rw [bh zdgw (Nat.le_of_ble_eq_true rfl)]
 unfold mg at h
 obtain ⟨y1,hy1,h⟩ := ob h
 have k2 := wx p1 _ hy1
 try simp only [CL,MC,reduceToNat] at k2
 by_cases c3 : y1 = true
 · rw [if_pos c3] at h
   obtain ⟨y4,hy4,h⟩ := ob h
   simp only [kq,TT,Ic.t,ci,reduceEqDiff,reduceAdd,reduceCtorEq,hl,k2,c3]
   have Sy4 := zdc9 p1 ((p1.Parties.length : Nat) : Int) (0 : Int) y4 hy4
   unfold l9 at Sy4
   refine Sy4 _ τ.next (by simp only [aj,ap]; omega) (by simp only [TT]) (by simp only [aj]; omega) _ ?_ ?_
   · intro w5 e frq6 tkq6 τq6 htq6 hcq6
     subst e
     simp only at h
     have hcq6 := az (n := τ.next + 1) hcq6 (by simp only [aj]; omega)
     try simp only [List.take_zero] at htq6
     try simp only [TT] at hcq6
     injection h with h; subst h
     simp only [TT,hcq6]
     first | exact hK | (simp only [hl,k2,c3,htq6,hcq6,CL] at hK; exact hK)
   intro w7 e tkq8 τq8 hcq8
   subst e
   simp only at h
   have hcq8 := az (n := τ.next) hcq8 (by simp only [aj]; omega)
   try simp only [TT] at hcq8
   injection h with h; subst h
   simp only [TT,hcq8]
   first | exact hK | (simp only [hl,k2,c3,hcq8,CL] at hK; exact hK)
 rw [if_neg c3] at h
 have c3 := Bool.eq_false_iff.2 c3
 injection h with h; subst h
 simp only [kq,TT,Ic.t,ci,reduceEqDiff,reduceAdd,reduceCtorEq,hl,k2,c3]
 first | exact hK | (simp only [hl,k2,c3,CL] at hK; exact hK)
theorem zc3m (p1 : aa) (r : Bool) (h : mg p1 = some r) (lk : Bool) (d : Option Nat) (K : au) (fr : TF) (tk : TK) (τ : TH) (hl : τ.lock ≤ τ.next) : eo G lk mj [.agg [.str p1.ID,.sl (List.map ag.tv p1.Parties),.sl (List.map ac.tv p1.Arcs),.sl (List.map (TV.int .i64) p1.Leaders),.sl (List.map TV.str p1.Locks),.int .i64 p1.Start,.int .i64 p1.Delta]] d K fr tk τ = K (fv fr d (.bool r)) tk τ :=
 av (zc3n p1 r h τ hl) (zc3n p1 r h (τ.locked τ.next) (Nat.le_refl _) ) (by simp only [TT])
def ov (p1 : aa) : Option Bool :=
 pd p1 >>= fun y1 =>
 if y1 = true then
  mg p1 >>= fun y4 =>
  some y4
 else
 some false
theorem zcyb (p1 : aa) (r : Bool) (h : ov p1 = some r) (τ : TH) (hl : τ.lock ≤ τ.next) : Ru G o7 [.agg [.str p1.ID,.sl (List.map ag.tv p1.Parties),.sl (List.map ac.tv p1.Arcs),.sl (List.map (TV.int .i64) p1.Leaders),.sl (List.map TV.str p1.Locks),.int .i64 p1.Start,.int .i64 p1.Delta]] τ (.bool r) τ := by
 refine jv fun K hK => ?_
 rw [bh zde4 (Nat.le_of_ble_eq_true rfl)]
 unfold ov at h
 obtain ⟨y1,hy1,h⟩ := ob h
 have k2 := zc0m p1 _ hy1
 try simp only [CL,MC,reduceToNat] at k2
 by_cases c3 : y1 = true
 · rw [if_pos c3] at h
   obtain ⟨y4,hy4,h⟩ := ob h
   have k5 := zc3m p1 _ hy4
   try simp only [CL,MC,reduceToNat] at k5
   injection h with h; subst h
   simp only [zcsu,TT,Ic.t,reduceEqDiff,reduceAdd,reduceCtorEq,hl,k2,c3,k5]
   first | exact hK | (simp only [hl,k2,c3,k5,CL] at hK; exact hK)
 rw [if_neg c3] at h
 have c3 := Bool.eq_false_iff.2 c3
 injection h with h; subst h
 simp only [zcsu,TT,Ic.t,reduceEqDiff,reduceAdd,reduceCtorEq,hl,k2,c3]
 first | exact hK | (simp only [hl,k2,c3,CL] at hK; exact hK)
theorem zcfq (p1 : aa) (r : Bool) (h : ov p1 = some r) (lk : Bool) (d : Option Nat) (K : au) (fr : TF) (tk : TK) (τ : TH) (hl : τ.lock ≤ τ.next) : eo G lk o7 [.agg [.str p1.ID,.sl (List.map ag.tv p1.Parties),.sl (List.map ac.tv p1.Arcs),.sl (List.map (TV.int .i64) p1.Leaders),.sl (List.map TV.str p1.Locks),.int .i64 p1.Start,.int .i64 p1.Delta]] d K fr tk τ = K (fv fr d (.bool r)) tk τ :=
 av (zcyb p1 r h τ hl) (zcyb p1 r h (τ.locked τ.next) (Nat.le_refl _) ) (by simp only [TT])
def ry (p1 : ac) (p2 : (List Int)) (p3 : Int) (p4 : Int) : Option Bool :=
 ixL p2 (IntKind.i64.wrap (p3 - (1 : Int))) >>= fun y1 =>
 if p1.From = y1 then
  some (decide (p1.To = p4))
 else
 some false
theorem zc0l (p1 : ac) (p2 : (List Int)) (p3 : Int) (p4 : Int) (r : Bool) (h : ry p1 p2 p3 p4 = some r) (τ : TH) (o0 : Nat) (o1 : Nat) (o2 : Nat) (hl : τ.lock ≤ τ.next) (ha0 : τ.at o0 = some ⟨zbwr,[.sl (List.map (TV.int .i64) p2)]⟩) (hi0 : o0 < τ.next) (ha1 : τ.at o1 = some ⟨cy,[.int .i64 p3]⟩) (hi1 : o1 < τ.next) (ha2 : τ.at o2 = some ⟨cy,[.int .i64 p4]⟩) (hi2 : o2 < τ.next) : Ru G je [.agg [.int .i64 p1.From,.int .i64 p1.To,.int .i64 p1.Ledger,.str p1.Asset,.int .i64 p1.Amount],.ptr o0 0,.ptr o1 0,.ptr o2 0] τ (.bool r) τ := by
 refine jv fun K hK => ?_
 rw [bh zdfr (Nat.le_of_ble_eq_true rfl)]
 unfold ry at h
 obtain ⟨y1,hy1,h⟩ := ob h
 have f2 := aw hy1
 have f2a := (f2.2.2 (TV.int .i64)).1
 have f2b := (f2.2.2 (TV.int .i64)).2
 try simp only [CL,MC,reduceToNat] at f2 f2a f2b
 by_cases c3 : p1.From = y1
 · rw [if_pos c3] at h
   injection h with h; subst h
   simp only [zcu9,TT,Ic.t,ci,reduceEqDiff,reduceAdd,reduceCtorEq,ha0,hi0,ha1,hi1,ha2,hi2,f2.1,f2.2.1,f2a,eq_true c3]
   exact hK
 rw [if_neg c3] at h
 injection h with h; subst h
 simp only [zcu9,TT,Ic.t,ci,reduceEqDiff,reduceAdd,reduceCtorEq,ha0,hi0,ha1,hi1,f2.1,f2.2.1,f2a,c3]
 exact hK
theorem zdb2 (p1 : ac) (p2 : (List Int)) (p3 : Int) (p4 : Int) (r : Bool) (h : ry p1 p2 p3 p4 = some r) (lk : Bool) (d : Option Nat) (K : au) (fr : TF) (tk : TK) (τ : TH) (o0 : Nat) (o1 : Nat) (o2 : Nat) (hl : τ.lock ≤ τ.next) (ha0 : τ.at o0 = some ⟨zbwr,[.sl (List.map (TV.int .i64) p2)]⟩) (hi0 : o0 < τ.next) (ha1 : τ.at o1 = some ⟨cy,[.int .i64 p3]⟩) (hi1 : o1 < τ.next) (ha2 : τ.at o2 = some ⟨cy,[.int .i64 p4]⟩) (hi2 : o2 < τ.next) : eo G lk je [.agg [.int .i64 p1.From,.int .i64 p1.To,.int .i64 p1.Ledger,.str p1.Asset,.int .i64 p1.Amount],.ptr o0 0,.ptr o1 0,.ptr o2 0] d K fr tk τ = K (fv fr d (.bool r)) tk τ :=
 av (zc0l p1 p2 p3 p4 r h τ o0 o1 o2 hl ha0 hi0 ha1 hi1 ha2 hi2) (zc0l p1 p2 p3 p4 r h (τ.locked τ.next) o0 o1 o2 (Nat.le_refl _) (by rw [zbls]; exact ha0) hi0 (by rw [zbls]; exact ha1) hi1 (by rw [zbls]; exact ha2) hi2) (by simp only [TT,hi0,hi1,hi2])
def ax (v0 : (List ac)) (v1 : (List Int)) (v2 : Int) (v3 : Int) (v4 : Int) (v5 : Int) : Option (LS (Int) (LX (Unit) (Int))) :=
 if v5 < v4 then
  ixL v0 v5 >>= fun y2 =>
  ry (⟨y2.From,y2.To,y2.Ledger,y2.Asset,y2.Amount⟩ : ac) v1 v2 v3 >>= fun y4 =>
  if y4 = true then
   some (.dn (.rt v5))
  else
  some (.nx (IntKind.i64.wrap (v5 + (1 : Int))))
 else
 some (.dn (.ex ()))
def bl (v0 : (List ac)) (v1 : (List Int)) (v2 : Int) (v3 : Int) (v4 : Int) (v5 : Int) : Option (LX (Unit) (Int)) := kx (fun st => ax v0 v1 v2 v3 v4 st) v5
theorem lq (v0 : (List ac)) (v1 : (List Int)) (v2 : Int) (v3 : Int) (v4 : Int) (v5 : Int) : bl v0 v1 v2 v3 v4 v5 = ax v0 v1 v2 v3 v4 v5 >>= LS.go (fun st => bl v0 v1 v2 v3 v4 st) := bu (fun st => ax v0 v1 v2 v3 v4 st) v5
def di (v0 : (List ac)) (v1 : (List Int)) (v2 : Int) (v3 : Int) (v4 : Int) (v5 : Int) (r : LX (Unit) (Int)) : Prop := ∀ (τ : TH) (o0 : Nat) (o1 : Nat) (o2 : Nat) (hl : τ.lock ≤ τ.next) (ha0 : τ.at o0 = some ⟨zbwr,[.sl (List.map (TV.int .i64) v1)]⟩) (hi0 : o0 < τ.next) (ha1 : τ.at o1 = some ⟨cy,[.int .i64 v2]⟩) (hi1 : o1 < τ.next) (ha2 : τ.at o2 = some ⟨cy,[.int .i64 v3]⟩) (hi2 : o2 < τ.next) (Q : TEx → au) (hQ0 : ∀ v : Unit,r = (.ex v) → ∀ (fr : TF) (tk2 : TK) (τ2 : TH),tk2.take 0 = [] → τ2.cut τ.next = τ → Q (.exit 0) fr tk2 τ2) (hQ1 : ∀ v : Int,r = (.rt v) → ∀ (tk2 : TK) (τ2 : TH),τ2.cut τ.next = τ → Q .ret [(4,.int .i64 v)] tk2 τ2) ,tW G (.loop [0,1,7,8] cp) Q [(0,.sl (List.map ac.tv v0)),(1,.func je [] [.ptr o0 0,.ptr o1 0,.ptr o2 0]),(7,.int .i64 v4),(8,.int .i64 v5)] [] τ
theorem tm (v0 : (List ac)) (v1 : (List Int)) (v2 : Int) (v3 : Int) (v4 : Int) (v5 : Int) (r : LX (Unit) (Int)) (h : bl v0 v1 v2 v3 v4 v5 = some r) : di v0 v1 v2 v3 v4 v5 r := by
 refine bf (f := fun st => ax v0 v1 v2 v3 v4 st) (P := fun st r => ∀ (v5 : Int),v5 = st → di v0 v1 v2 v3 v4 v5 r) ?_ h v5 rfl
 clear h r v5
 intro st o h r ih v5 hst τ o0 o1 o2 hl ha0 hi0 ha1 hi1 ha2 hi2 Q hQ0 hQ1
 subst hst
 have h : ax v0 v1 v2 v3 v4 v5 = some o := h
 unfold ax at h
 refine jo fun LQ hn hr he => ?_
 by_cases c1 : v5 < v4
 · rw [if_pos c1] at h
   obtain ⟨y2,hy2,h⟩ := ob h
   have f3 := aw hy2
   have f3a := (f3.2.2 ac.tv).1
   have f3b := (f3.2.2 ac.tv).2
   try simp only [CL] at f3 f3a f3b
   obtain ⟨y4,hy4,h⟩ := ob h
   have k5 := zdb2 (⟨y2.From,y2.To,y2.Ledger,y2.Asset,y2.Amount⟩ : ac) v1 v2 v3 _ hy4
   try simp only [] at k5
   by_cases c6 : y4 = true
   · rw [if_pos c6] at h
     injection h with h; subst h
     obtain rfl : _ = r := ih
     simp only [cp,b7,TT,Ic.t,ci,reduceEqDiff,reduceAdd,reduceCtorEq,hl,ha0,hi0,ha1,hi1,ha2,hi2,he,hr,c1,f3.1,f3.2.1,f3a,k5,c6]
     exact hQ1 v5 rfl _ _ (by simp only [TT])
   rw [if_neg c6] at h
   have c6 := Bool.eq_false_iff.2 c6
   injection h with h; subst h
   have ih := ih (IntKind.i64.wrap (v5 + (1 : Int))) rfl
   unfold di at ih
   simp only [cp,b7,TT,Ic.t,ci,reduceEqDiff,reduceAdd,reduceCtorEq,hl,ha0,hi0,ha1,hi1,ha2,hi2,c1,f3.1,f3.2.1,f3a,k5,c6]
   rw [hn]
   simp only [TT,reduceEqDiff,reduceCtorEq,hi0,hi1,hi2]
   exact ih τ o0 o1 o2 (by assumption) (by simp only [ha0]) (by assumption) (by simp only [ha1]) (by assumption) (by simp only [ha2]) (by assumption) Q hQ0 hQ1
 rw [if_neg c1] at h
 injection h with h; subst h
 obtain rfl : _ = r := ih
 simp only [cp,b7,TT,Ic.t,ci,reduceEqDiff,reduceCtorEq,he,c1]
 exact hQ0 () rfl _ _ _ (by rfl) (by simp only [TT])
def db (p1 : (List ac)) (p2 : (List Int)) (p3 : Int) (p4 : Int) : Option Int :=
 bl p1 p2 p3 p4 ((p1.length : Nat) : Int) (0 : Int) >>= fun y1 =>
 match y1 with
 | .ex w2 =>
  some (-1 : Int)
 | .rt w4 =>
  some w4
theorem mw (p1 : (List ac)) (p2 : (List Int)) (p3 : Int) (p4 : Int) (r : Int) (h : db p1 p2 p3 p4 = some r) (τ : TH) (o0 : Nat) (o1 : Nat) (o2 : Nat) (hl : τ.lock ≤ τ.next) (ha0 : τ.at o0 = some ⟨zbwr,[.sl (List.map (TV.int .i64) p2)]⟩) (hi0 : o0 < τ.next) (ha1 : τ.at o1 = some ⟨cy,[.int .i64 p3]⟩) (hi1 : o1 < τ.next) (ha2 : τ.at o2 = some ⟨cy,[.int .i64 p4]⟩) (hi2 : o2 < τ.next) : Ru G b9 [.sl (List.map ac.tv p1),.func je [] [.ptr o0 0,.ptr o1 0,.ptr o2 0]] τ (.int .i64 r) τ := by
 refine jv fun K hK => ?_
 rw [bh z1 (Nat.le_of_ble_eq_true rfl)]
 unfold db at h
 obtain ⟨y1,hy1,h⟩ := ob h
 simp only [b7,TT,Ic.t,ci,reduceEqDiff,reduceAdd,reduceCtorEq]
 have Sy1 := tm p1 p2 p3 p4 ((p1.length : Nat) : Int) (0 : Int) y1 hy1
 unfold di at Sy1
 refine Sy1 _ o0 o1 o2 (by assumption) (by simp only [ha0]) (by assumption) (by simp only [ha1]) (by assumption) (by simp only [ha2]) (by assumption) _ ?_ ?_
 · intro w2 e frq3 tkq3 τq3 htq3 hcq3
   subst e
   simp only at h
   have hcq3 := az (n := τ.next) hcq3 (by omega)
   try simp only [List.take_zero] at htq3
   try simp only [TT] at hcq3
   injection h with h; subst h
   simp only [TT,hcq3]
   exact hK
 intro w4 e tkq5 τq5 hcq5
 subst e
 simp only at h
 have hcq5 := az (n := τ.next) hcq5 (by omega)
 try simp only [TT] at hcq5
 injection h with h; subst h
 simp only [TT,hcq5]
 exact hK
theorem wz (p1 : (List ac)) (p2 : (List Int)) (p3 : Int) (p4 : Int) (r : Int) (h : db p1 p2 p3 p4 = some r) (lk : Bool) (d : Option Nat) (K : au) (fr : TF) (tk : TK) (τ : TH) (o0 : Nat) (o1 : Nat) (o2 : Nat) (hl : τ.lock ≤ τ.next) (ha0 : τ.at o0 = some ⟨zbwr,[.sl (List.map (TV.int .i64) p2)]⟩) (hi0 : o0 < τ.next) (ha1 : τ.at o1 = some ⟨cy,[.int .i64 p3]⟩) (hi1 : o1 < τ.next) (ha2 : τ.at o2 = some ⟨cy,[.int .i64 p4]⟩) (hi2 : o2 < τ.next) : eo G lk b9 [.sl (List.map ac.tv p1),.func je [] [.ptr o0 0,.ptr o1 0,.ptr o2 0]] d K fr tk τ = K (fv fr d (.int .i64 r)) tk τ :=
 av (mw p1 p2 p3 p4 r h τ o0 o1 o2 hl ha0 hi0 ha1 hi1 ha2 hi2) (mw p1 p2 p3 p4 r h (τ.locked τ.next) o0 o1 o2 (Nat.le_refl _) (by rw [zbls]; exact ha0) hi0 (by rw [zbls]; exact ha1) hi1 (by rw [zbls]; exact ha2) hi2) (by simp only [TT,hi0,hi1,hi2])
def bm (p1 : (List ac)) (p2 : (List Int)) (p3 : Int) (p4 : Int) : Option Bool :=
 db p1 p2 p3 p4 >>= fun y1 =>
 some (decide ((0 : Int) ≤ y1))
theorem l0 (p1 : (List ac)) (p2 : (List Int)) (p3 : Int) (p4 : Int) (r : Bool) (h : bm p1 p2 p3 p4 = some r) (τ : TH) (o0 : Nat) (o1 : Nat) (o2 : Nat) (hl : τ.lock ≤ τ.next) (ha0 : τ.at o0 = some ⟨zbwr,[.sl (List.map (TV.int .i64) p2)]⟩) (hi0 : o0 < τ.next) (ha1 : τ.at o1 = some ⟨cy,[.int .i64 p3]⟩) (hi1 : o1 < τ.next) (ha2 : τ.at o2 = some ⟨cy,[.int .i64 p4]⟩) (hi2 : o2 < τ.next) : Ru G bn [.sl (List.map ac.tv p1),.func je [] [.ptr o0 0,.ptr o1 0,.ptr o2 0]] τ (.bool r) τ := by
 refine jv fun K hK => ?_
 rw [bh wj (Nat.le_of_ble_eq_true rfl)]
 unfold bm at h
 obtain ⟨y1,hy1,h⟩ := ob h
 have k2 := wz p1 p2 p3 p4 _ hy1
 try simp only [CL,MC,reduceToNat] at k2
 injection h with h; subst h
 simp only [wu,TT,Ic.t,ci,reduceEqDiff,reduceAdd,reduceCtorEq,hl,ha0,hi0,ha1,hi1,ha2,hi2,k2]
 exact hK
theorem tq (p1 : (List ac)) (p2 : (List Int)) (p3 : Int) (p4 : Int) (r : Bool) (h : bm p1 p2 p3 p4 = some r) (lk : Bool) (d : Option Nat) (K : au) (fr : TF) (tk : TK) (τ : TH) (o0 : Nat) (o1 : Nat) (o2 : Nat) (hl : τ.lock ≤ τ.next) (ha0 : τ.at o0 = some ⟨zbwr,[.sl (List.map (TV.int .i64) p2)]⟩) (hi0 : o0 < τ.next) (ha1 : τ.at o1 = some ⟨cy,[.int .i64 p3]⟩) (hi1 : o1 < τ.next) (ha2 : τ.at o2 = some ⟨cy,[.int .i64 p4]⟩) (hi2 : o2 < τ.next) : eo G lk bn [.sl (List.map ac.tv p1),.func je [] [.ptr o0 0,.ptr o1 0,.ptr o2 0]] d K fr tk τ = K (fv fr d (.bool r)) tk τ :=
 av (l0 p1 p2 p3 p4 r h τ o0 o1 o2 hl ha0 hi0 ha1 hi1 ha2 hi2) (l0 p1 p2 p3 p4 r h (τ.locked τ.next) o0 o1 o2 (Nat.le_refl _) (by rw [zbls]; exact ha0) hi0 (by rw [zbls]; exact ha1) hi1 (by rw [zbls]; exact ha2) hi2) (by simp only [TT,hi0,hi1,hi2])
def dy (v0 : aa) (v1 : (List Int)) (v2 : (List Int)) (v3 : Int) (v4 : Int) : Option (LS (Int) (LX (Unit) (Bool))) :=
 if v4 < v3 then
  ixL v2 v4 >>= fun y2 =>
  if y2 < (0 : Int) then
   some (.dn (.rt false))
  else
  if ((v0.Parties.length : Nat) : Int) ≤ y2 then
   some (.dn (.rt false))
  else
  if ¬ v1 = [] then
   if 0 ≤ v4 ∧ v4 ≤ (v1.length : Int) then
    dq (v1.take v4.toNat) y2 >>= fun y11 =>
    if y11 = true then
     some (.dn (.rt false))
    else
    if (0 : Int) < v4 then
     bm v0.Arcs v1 v4 y2 >>= fun y15 =>
     if y15 = true then
      some (.nx (IntKind.i64.wrap (v4 + (1 : Int))))
     else
     some (.dn (.rt false))
    else
    some (.nx (IntKind.i64.wrap (v4 + (1 : Int))))
   else
    none
  else
   none
 else
 some (.dn (.ex ()))
def gw (v0 : aa) (v1 : (List Int)) (v2 : (List Int)) (v3 : Int) (v4 : Int) : Option (LX (Unit) (Bool)) := kx (fun st => dy v0 v1 v2 v3 st) v4
theorem zcgk (v0 : aa) (v1 : (List Int)) (v2 : (List Int)) (v3 : Int) (v4 : Int) : gw v0 v1 v2 v3 v4 = dy v0 v1 v2 v3 v4 >>= LS.go (fun st => gw v0 v1 v2 v3 st) := bu (fun st => dy v0 v1 v2 v3 st) v4
def p9 (v0 : aa) (v1 : (List Int)) (v2 : (List Int)) (v3 : Int) (v4 : Int) (r : LX (Unit) (Bool)) : Prop := ∀ (τ : TH) (o0 : Nat) (o1 : Nat) (hl : τ.lock ≤ τ.next) (ha0 : τ.at o0 = some ⟨am,[.str v0.ID,.sl (List.map ag.tv v0.Parties),.sl (List.map ac.tv v0.Arcs),.sl (List.map (TV.int .i64) v0.Leaders),.sl (List.map TV.str v0.Locks),.int .i64 v0.Start,.int .i64 v0.Delta]⟩) (hi0 : o0 < τ.next) (ha1 : τ.at o1 = some ⟨zbwr,[.sl (List.map (TV.int .i64) v1)]⟩) (hi1 : o1 < τ.next) (Q : TEx → au) (hQ0 : ∀ v : Unit,r = (.ex v) → ∀ (fr : TF) (tk2 : TK) (τ2 : TH),tk2.take 0 = [] → τ2.cut τ.next = τ → Q (.exit 0) fr tk2 τ2) (hQ1 : ∀ v : Bool,r = (.rt v) → ∀ (tk2 : TK) (τ2 : TH),τ2.cut τ.next = τ → Q .ret [(4,.bool v)] tk2 τ2) ,tW G (.loop [2,3,15,16,17] lu) Q [(2,.ptr o0 0),(3,.ptr o1 0),(15,.sl (List.map (TV.int .i64) v2)),(16,.int .i64 v3),(17,.int .i64 v4)] [] τ
theorem zdck (v0 : aa) (v1 : (List Int)) (v2 : (List Int)) (v3 : Int) (v4 : Int) (r : LX (Unit) (Bool)) (h : gw v0 v1 v2 v3 v4 = some r) : p9 v0 v1 v2 v3 v4 r := by
 refine bf (f := fun st => dy v0 v1 v2 v3 st) (P := fun st r => ∀ (v4 : Int),v4 = st → p9 v0 v1 v2 v3 v4 r) ?_ h v4 rfl
 clear h r v4
 intro st o h r ih v4 hst τ o0 o1 hl ha0 hi0 ha1 hi1 Q hQ0 hQ1
 subst hst
 have h : dy v0 v1 v2 v3 v4 = some o := h
 unfold dy at h
 refine jo fun LQ hn hr he => ?_
 by_cases c1 : v4 < v3
 · rw [if_pos c1] at h
   obtain ⟨y2,hy2,h⟩ := ob h
   have f3 := aw hy2
   have f3a := (f3.2.2 (TV.int .i64)).1
   have f3b := (f3.2.2 (TV.int .i64)).2
   try simp only [CL,MC,reduceToNat] at f3 f3a f3b
   by_cases c4 : y2 < (0 : Int)
   · rw [if_pos c4] at h
     injection h with h; subst h
     obtain rfl : _ = r := ih
     simp only [lu,kp,TT,Ic.t,ci,reduceEqDiff,reduceAdd,reduceLT,reduceCtorEq,hl,he,hr,c1,f3.1,f3.2.1,f3a,c4]
     exact hQ1 false rfl _ _ (by simp only [TT])
   rw [if_neg c4] at h
   by_cases c5 : ((v0.Parties.length : Nat) : Int) ≤ y2
   · rw [if_pos c5] at h
     injection h with h; subst h
     obtain rfl : _ = r := ih
     simp only [lu,kp,TT,Ic.t,ci,reduceEqDiff,reduceAdd,reduceLT,reduceCtorEq,hl,ha0,hi0,he,hr,c1,f3.1,f3.2.1,f3a,c4,c5]
     exact hQ1 false rfl _ _ (by simp only [TT])
   rw [if_neg c5] at h
   obtain ⟨c6,h⟩ := ifS h
   obtain ⟨c7,h⟩ := ifS h
   have f8 : ((List.map (TV.int .i64) v1).all fun e => e.cells.length == 1) = true := zbmt (fun _ => rfl) _
   have f9 : (!(List.map (TV.int .i64) v1).isEmpty) = true := zdg1 c6
   have f10 : (List.map (TV.int .i64) v1).take v4.toNat = List.map (TV.int .i64) (v1.take v4.toNat) := List.map_take.symm
   obtain ⟨y11,hy11,h⟩ := ob h
   have k12 := tp (v1.take v4.toNat) y2 _ hy11
   try simp only [CL,MC,reduceToNat] at k12
   by_cases c13 : y11 = true
   · rw [if_pos c13] at h
     injection h with h; subst h
     obtain rfl : _ = r := ih
     simp only [lu,kp,TT,Ic.t,ci,reduceEqDiff,reduceAdd,reduceLT,reduceCtorEq,hl,ha0,hi0,ha1,hi1,he,hr,c1,f3.1,f3.2.1,f3a,c4,c5,c7,f8,f9,f10,k12,c13]
     exact hQ1 false rfl _ _ (by simp only [TT])
   rw [if_neg c13] at h
   have c13 := Bool.eq_false_iff.2 c13
   by_cases c14 : (0 : Int) < v4
   · rw [if_pos c14] at h
     obtain ⟨y15,hy15,h⟩ := ob h
     have k16 := tq v0.Arcs v1 v4 y2 _ hy15
     try simp only [CL,MC,reduceToNat] at k16
     by_cases c17 : y15 = true
     · rw [if_pos c17] at h
       injection h with h; subst h
       have ih := ih (IntKind.i64.wrap (v4 + (1 : Int))) rfl
       unfold p9 at ih
       simp only [lu,kp,TT,Ic.t,ci,reduceEqDiff,reduceAdd,reduceLT,reduceCtorEq,hl,ha0,hi0,ha1,hi1,c1,f3.1,f3.2.1,f3a,c4,c5,c7,f8,f9,f10,k12,c13,c14,k16,c17]
       rw [hn]
       simp only [TT,reduceEqDiff,hi0,hi1]
       exact ih τ o0 o1 (by assumption) (by simp only [ha0]) (by assumption) (by simp only [ha1]) (by assumption) Q hQ0 hQ1
     rw [if_neg c17] at h
     have c17 := Bool.eq_false_iff.2 c17
     injection h with h; subst h
     obtain rfl : _ = r := ih
     simp only [lu,kp,TT,Ic.t,ci,reduceEqDiff,reduceAdd,reduceLT,reduceCtorEq,hl,ha0,hi0,ha1,hi1,he,hr,c1,f3.1,f3.2.1,f3a,c4,c5,c7,f8,f9,f10,k12,c13,c14,k16,c17]
     exact hQ1 false rfl _ _ (by simp only [TT])
   rw [if_neg c14] at h
   injection h with h; subst h
   have ih := ih (IntKind.i64.wrap (v4 + (1 : Int))) rfl
   unfold p9 at ih
   simp only [lu,kp,TT,Ic.t,ci,reduceEqDiff,reduceAdd,reduceLT,reduceCtorEq,hl,ha0,hi0,ha1,hi1,c1,f3.1,f3.2.1,f3a,c4,c5,c7,f8,f9,f10,k12,c13,c14]
   rw [hn]
   simp only [TT,reduceEqDiff,hi0,hi1]
   exact ih τ o0 o1 (by assumption) (by simp only [ha0]) (by assumption) (by simp only [ha1]) (by assumption) Q hQ0 hQ1
 rw [if_neg c1] at h
 injection h with h; subst h
 obtain rfl : _ = r := ih
 simp only [lu,kp,TT,Ic.t,ci,reduceEqDiff,reduceCtorEq,he,c1]
 exact hQ0 () rfl _ _ _ (by rfl) (by simp only [TT])
def qd (p1 : aa) (p2 : (List Int)) : Option Bool :=
 mv p1 >>= fun y1 =>
 if y1 = true then
  if ((p2.length : Nat) : Int) = (0 : Int) then
   some false
  else
  gw p1 p2 p2 ((p2.length : Nat) : Int) (0 : Int) >>= fun y5 =>
  match y5 with
  | .ex w6 =>
   some true
  | .rt w8 =>
   some w8
 else
 some false
theorem zcva (p1 : aa) (p2 : (List Int)) (r : Bool) (h : qd p1 p2 = some r) (τ : TH) (hl : τ.lock ≤ τ.next) : Ru G qf [.agg [.str p1.ID,.sl (List.map ag.tv p1.Parties),.sl (List.map ac.tv p1.Arcs),.sl (List.map (TV.int .i64) p1.Leaders),.sl (List.map TV.str p1.Locks),.int .i64 p1.Start,.int .i64 p1.Delta],.sl (List.map (TV.int .i64) p2)] τ (.bool r) τ := by
 refine jv fun K hK => ?_
 rw [bh zdbv (Nat.le_of_ble_eq_true rfl)]
 unfold qd at h
 obtain ⟨y1,hy1,h⟩ := ob h
 have k2 := wx p1 _ hy1
 try simp only [CL,MC,reduceToNat] at k2
 by_cases c3 : y1 = true
 · rw [if_pos c3] at h
   by_cases c4 : ((p2.length : Nat) : Int) = (0 : Int)
   · rw [if_pos c4] at h
     injection h with h; subst h
     simp only [kp,TT,Ic.t,ci,reduceEqDiff,reduceAdd,reduceLT,reduceCtorEq,hl,k2,c3,eq_true c4]
     first | exact hK | (simp only [hl,k2,c3,eq_true c4,CL] at hK; exact hK)
   rw [if_neg c4] at h
   obtain ⟨y5,hy5,h⟩ := ob h
   simp only [kp,TT,Ic.t,ci,reduceEqDiff,reduceAdd,reduceLT,reduceCtorEq,hl,k2,c3,c4]
   have Sy5 := zdck p1 p2 p2 ((p2.length : Nat) : Int) (0 : Int) y5 hy5
   unfold p9 at Sy5
   refine Sy5 _ τ.next (τ.next + 1) (by simp only [aj,ap]; omega) (by simp only [TT,reduceLT]) (by simp only [aj]; omega) (by simp only [TT]) (by simp only [aj]; omega) _ ?_ ?_
   · intro w6 e frq7 tkq7 τq7 htq7 hcq7
     subst e
     simp only at h
     have hcq7 := az (n := τ.next + 2) hcq7 (by simp only [aj]; omega)
     try simp only [List.take_zero] at htq7
     try simp only [TT,reduceAdd] at hcq7
     injection h with h; subst h
     simp only [TT,reduceAdd,hcq7]
     first | exact hK | (simp only [hl,k2,c3,c4,htq7,hcq7,CL] at hK; exact hK)
   intro w8 e tkq9 τq9 hcq9
   subst e
   simp only at h
   have hcq9 := az (n := τ.next) hcq9 (by simp only [aj]; omega)
   try simp only [TT] at hcq9
   injection h with h; subst h
   simp only [TT,hcq9]
   first | exact hK | (simp only [hl,k2,c3,c4,hcq9,CL] at hK; exact hK)
 rw [if_neg c3] at h
 have c3 := Bool.eq_false_iff.2 c3
 injection h with h; subst h
 simp only [kp,TT,Ic.t,ci,reduceEqDiff,reduceAdd,reduceLT,reduceCtorEq,hl,k2,c3]
 first | exact hK | (simp only [hl,k2,c3,CL] at hK; exact hK)
theorem zcfd (p1 : aa) (p2 : (List Int)) (r : Bool) (h : qd p1 p2 = some r) (lk : Bool) (d : Option Nat) (K : au) (fr : TF) (tk : TK) (τ : TH) (hl : τ.lock ≤ τ.next) : eo G lk qf [.agg [.str p1.ID,.sl (List.map ag.tv p1.Parties),.sl (List.map ac.tv p1.Arcs),.sl (List.map (TV.int .i64) p1.Leaders),.sl (List.map TV.str p1.Locks),.int .i64 p1.Start,.int .i64 p1.Delta],.sl (List.map (TV.int .i64) p2)] d K fr tk τ = K (fv fr d (.bool r)) tk τ :=
 av (zcva p1 p2 r h τ hl) (zcva p1 p2 r h (τ.locked τ.next) (Nat.le_refl _) ) (by simp only [TT])
def t9 (p1 : ac) (p2 : Int) : Option Bool :=
 some (decide (p1.To = p2))
theorem zc2x (p1 : ac) (p2 : Int) (r : Bool) (h : t9 p1 p2 = some r) (τ : TH) (o0 : Nat) (hl : τ.lock ≤ τ.next) (ha0 : τ.at o0 = some ⟨cy,[.int .i64 p2]⟩) (hi0 : o0 < τ.next) : Ru G km [.agg [.int .i64 p1.From,.int .i64 p1.To,.int .i64 p1.Ledger,.str p1.Asset,.int .i64 p1.Amount],.ptr o0 0] τ (.bool r) τ := by
 refine jv fun K hK => ?_
 rw [bh zdgh (Nat.le_of_ble_eq_true rfl)]
 unfold t9 at h
 injection h with h; subst h
 simp only [zdf3,TT,Ic.t,reduceEqDiff,reduceAdd,reduceCtorEq,ha0,hi0]
 exact hK
theorem zdci (p1 : ac) (p2 : Int) (r : Bool) (h : t9 p1 p2 = some r) (lk : Bool) (d : Option Nat) (K : au) (fr : TF) (tk : TK) (τ : TH) (o0 : Nat) (hl : τ.lock ≤ τ.next) (ha0 : τ.at o0 = some ⟨cy,[.int .i64 p2]⟩) (hi0 : o0 < τ.next) : eo G lk km [.agg [.int .i64 p1.From,.int .i64 p1.To,.int .i64 p1.Ledger,.str p1.Asset,.int .i64 p1.Amount],.ptr o0 0] d K fr tk τ = K (fv fr d (.bool r)) tk τ :=
 av (zc2x p1 p2 r h τ o0 hl ha0 hi0) (zc2x p1 p2 r h (τ.locked τ.next) o0 (Nat.le_refl _) (by rw [zbls]; exact ha0) hi0) (by simp only [TT,hi0])
def ep (v0 : Int) (v2 : (List ac)) (v3 : Int) (v1 : (List Int)) (v4 : Int) : Option (LS ((List Int) × Int) ((List Int))) :=
 if v4 < v3 then
  ixL v2 v4 >>= fun y2 =>
  t9 (⟨y2.From,y2.To,y2.Ledger,y2.Asset,y2.Amount⟩ : ac) v0 >>= fun y4 =>
  if y4 = true then
   if (v1.length + 1) * 8 ≤ 140737488355328 then
    some (.nx ((v1 ++ [v4]),(IntKind.i64.wrap (v4 + (1 : Int)))))
   else
    none
  else
  some (.nx (v1,(IntKind.i64.wrap (v4 + (1 : Int)))))
 else
 some (.dn v1)
def ko (v0 : Int) (v2 : (List ac)) (v3 : Int) (v1 : (List Int)) (v4 : Int) : Option ((List Int)) := kx (fun st => ep v0 v2 v3 st.1 st.2) (v1,v4)
theorem zc3s (v0 : Int) (v2 : (List ac)) (v3 : Int) (v1 : (List Int)) (v4 : Int) : ko v0 v2 v3 v1 v4 = ep v0 v2 v3 v1 v4 >>= LS.go (fun st => ko v0 v2 v3 st.1 st.2) := bu (fun st => ep v0 v2 v3 st.1 st.2) (v1,v4)
def ou (v0 : Int) (v2 : (List ac)) (v3 : Int) (v1 : (List Int)) (v4 : Int) (r : (List Int)) : Prop := ∀ (τ : TH) (o0 : Nat) (n0 : Nat) (ty0 : TypeId) (hnn0 : n0 = v1.length) (hty0 : n0 = 0 ∨ ty0 = cy) (hl : τ.lock ≤ τ.next) (ha0 : τ.at o0 = some ⟨cy,[.int .i64 v0]⟩) (hi0 : o0 < τ.next) (Q : TEx → au) (hQ0 : ∀ (fr : TF) (tk2 : TK) (τ2 : TH),∀ (u0 : TypeId),(r.length = 0 ∨ u0 = cy) → lkp fr 5 = .sla 0 (List.map (TV.int .i64) r) → tk2.take 1 = [some (r.length,u0)] → τ2.cut τ.next = τ → Q (.exit 0) fr tk2 τ2) ,tW G (.loop [1,5,12,13,14] kc) Q [(1,.func km [] [.ptr o0 0]),(5,.sla 0 (List.map (TV.int .i64) v1)),(12,.sl (List.map ac.tv v2)),(13,.int .i64 v3),(14,.int .i64 v4)] [some (n0,ty0)] τ
theorem zdc0 (v0 : Int) (v2 : (List ac)) (v3 : Int) (v1 : (List Int)) (v4 : Int) (r : (List Int)) (h : ko v0 v2 v3 v1 v4 = some r) : ou v0 v2 v3 v1 v4 r := by
 refine bf (f := fun st => ep v0 v2 v3 st.1 st.2) (P := fun st r => ∀ (v1 : (List Int)) (v4 : Int),(v1,v4) = st → ou v0 v2 v3 v1 v4 r) ?_ h v1 v4 rfl
 clear h r v4 v1
 intro st o h r ih v1 v4 hst τ o0 n0 ty0 hnn0 hty0 hl ha0 hi0 Q hQ0
 subst hst
 have h : ep v0 v2 v3 v1 v4 = some o := h
 unfold ep at h
 subst hnn0
 refine jo fun LQ hn hr he => ?_
 by_cases c1 : v4 < v3
 · rw [if_pos c1] at h
   obtain ⟨y2,hy2,h⟩ := ob h
   have f3 := aw hy2
   have f3a := (f3.2.2 ac.tv).1
   have f3b := (f3.2.2 ac.tv).2
   try simp only [CL] at f3 f3a f3b
   obtain ⟨y4,hy4,h⟩ := ob h
   have k5 := zdci (⟨y2.From,y2.To,y2.Ledger,y2.Asset,y2.Amount⟩ : ac) v0 _ hy4
   try simp only [] at k5
   by_cases c6 : y4 = true
   · rw [if_pos c6] at h
     obtain ⟨c7,h⟩ := ifS h
     have f8 : 1 ≤ maxLen := by unfold maxLen; omega
     have f9 : v1.length + 1 ≤ maxLen := by unfold maxLen; omega
     have f10 : ((List.map (TV.int .i64) v1).all fun e => e.cells.length == 1) = true := zbmt (fun _ => rfl) _
     have f11 : List.map (TV.int .i64) v1 ++ List.map (TV.int .i64) [v4] = List.map (TV.int .i64) (v1 ++ [v4]) := zbu3 _ _
     try simp only [List.map_cons,List.map_nil] at f11
     injection h with h; subst h
     have ih := ih (v1 ++ [v4]) (IntKind.i64.wrap (v4 + (1 : Int))) rfl
     unfold ou at ih
     simp only [kc,jg,TT,Ic.t,ci,reduceEqDiff,reduceAdd,reduceLT,reduceLeDiff,reduceCtorEq,hl,ha0,hi0,hty0,c1,f3.1,f3.2.1,f3a,k5,c6,c7,f8,f9,f10,f11]
     rw [hn]
     simp only [TT,reduceEqDiff,reduceLT,hi0]
     exact ih τ o0 (v1.length + 1) cy (by simp []) (by exact Or.inr rfl) (by assumption) (by simp only [ha0]) (by assumption) Q hQ0
   rw [if_neg c6] at h
   have c6 := Bool.eq_false_iff.2 c6
   injection h with h; subst h
   have ih := ih v1 (IntKind.i64.wrap (v4 + (1 : Int))) rfl
   unfold ou at ih
   simp only [kc,jg,TT,Ic.t,ci,reduceEqDiff,reduceAdd,reduceLT,reduceLeDiff,reduceCtorEq,hl,ha0,hi0,hty0,c1,f3.1,f3.2.1,f3a,k5,c6]
   rw [hn]
   simp only [TT,reduceEqDiff,reduceLT,hi0]
   exact ih τ o0 _ ty0 (by rfl) (by exact hty0) (by assumption) (by simp only [ha0]) (by assumption) Q hQ0
 rw [if_neg c1] at h
 injection h with h; subst h
 obtain rfl : _ = r := ih
 simp only [kc,jg,TT,Ic.t,ci,reduceEqDiff,reduceAdd,reduceCtorEq,hl,he,c1]
 exact hQ0 _ _ _ ty0 (by exact hty0) (by rfl) (by rfl) (by simp only [TT])
end
end Go.Proofs.Ytdcfoaafkppojaa
