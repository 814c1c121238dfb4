import Derived.Test.YtdcfoaafkppojaaM12
import Derived.Test.YtdcfoaafkppojaaTcG
import Derived.IntWalk
set_option linter.unusedVariables false
set_option linter.unusedSimpArgs false
set_option linter.unusedSectionVars false
namespace Go.Proofs.Ytdcfoaafkppojaa
open Go Go.RowKit Sh Ic
structure ei where
 e0 : Int
 e1 : Int
def ei.cells (x : ei) : List TV := [.int .i64 x.e0,.int .i64 x.e1]
def ei.tv (x : ei) : TV := .agg x.cells
instance : Inhabited ei := ⟨⟨default,default⟩⟩
structure ac where
 From : Int
 To : Int
 Ledger : Int
 Asset : ByteArray
 Amount : Int
def ac.cells (x : ac) : List TV := [.int .i64 x.From,.int .i64 x.To,.int .i64 x.Ledger,.str x.Asset,.int .i64 x.Amount]
def ac.tv (x : ac) : TV := .agg x.cells
instance : Inhabited ac := ⟨⟨default,default,default,default,default⟩⟩
structure ag where
 Account : ByteArray
 Keys : (List ByteArray)
def ag.cells (x : ag) : List TV := [.str x.Account,.sl (List.map TV.str x.Keys)]
def ag.tv (x : ag) : TV := .agg x.cells
instance : Inhabited ag := ⟨⟨default,default⟩⟩
structure aa where
 ID : ByteArray
 Parties : (List ag)
 Arcs : (List ac)
 Leaders : (List Int)
 Locks : (List ByteArray)
 Start : Int
 Delta : Int
def aa.cells (x : aa) : List TV := [.str x.ID,.sl (List.map ag.tv x.Parties),.sl (List.map ac.tv x.Arcs),.sl (List.map (TV.int .i64) x.Leaders),.sl (List.map TV.str x.Locks),.int .i64 x.Start,.int .i64 x.Delta]
def aa.tv (x : aa) : TV := .agg x.cells
instance : Inhabited aa := ⟨⟨default,default,default,default,default,default,default⟩⟩
theorem CL : ((((∀ x : ei,ei.cells x = [.int .i64 x.e0,.int .i64 x.e1]) ∧ (∀ x : ei,ei.tv x = .agg x.cells)) ∧ ((∀ x : ac,ac.cells x = [.int .i64 x.From,.int .i64 x.To,.int .i64 x.Ledger,.str x.Asset,.int .i64 x.Amount]) ∧ (∀ x : ac,ac.tv x = .agg x.cells))) ∧ (((∀ x : ag,ag.cells x = [.str x.Account,.sl (List.map TV.str x.Keys)]) ∧ (∀ x : ag,ag.tv x = .agg x.cells)) ∧ ((∀ x : aa,aa.cells x = [.str x.ID,.sl (List.map ag.tv x.Parties),.sl (List.map ac.tv x.Arcs),.sl (List.map (TV.int .i64) x.Leaders),.sl (List.map TV.str x.Locks),.int .i64 x.Start,.int .i64 x.Delta]) ∧ ((∀ x : aa,aa.tv x = .agg x.cells) ∧ (∀ x : ByteArray,ik x = List.map (TV.int .u8) (zbmg x)))))) := ⟨⟨⟨(fun _ => rfl),(fun _ => rfl)⟩,⟨(fun _ => rfl),(fun _ => rfl)⟩⟩,⟨⟨(fun _ => rfl),(fun _ => rfl)⟩,⟨(fun _ => rfl),⟨(fun _ => rfl),zbuv⟩⟩⟩⟩
end Go.Proofs.Ytdcfoaafkppojaa
open Nat (reduceEqDiff reduceAdd reduceLT)
open Int (reduceToNat reduceEq)
namespace Go.Proofs.Ytdcfoaafkppojaa
open Go Go.RowKit Sh Ic
noncomputable def eu (v0 : aa) (v1 : Int) (v2 : Int) : Option (LS (Int) (LX (Unit) (Bool))) :=
 ixL v0.Parties v1 >>= fun y1 =>
 if v2 < ((y1.Keys.length : Nat) : Int) then
  ixL y1.Keys v2 >>= fun y4 =>
  if (40 : Int) < ((y4.size : Nat) : Int) then
   some (.dn (.rt false))
  else
  some (.nx (IntKind.i64.wrap (v2 + (1 : Int))))
 else
 some (.dn (.ex ()))
noncomputable def ia (v0 : aa) (v1 : Int) (v2 : Int) : Option (LX (Unit) (Bool)) := kx (fun st => eu v0 v1 st) v2
theorem zc3i (v0 : aa) (v1 : Int) (v2 : Int) : ia v0 v1 v2 = eu v0 v1 v2 >>= LS.go (fun st => ia v0 v1 st) := bu (fun st => eu v0 v1 st) v2
def tf (v0 : aa) (v1 : Int) (v2 : Int) (r : LX (Unit) (Bool)) : Prop := ∀ (τ : TH) (o0 : Nat) (hl : τ.lock ≤ τ.next) (ha0 : τ.at o0 = some ⟨am,[.str v0.ID,.sl (List.map ag.tv v0.Parties),.sl (List.map ac.tv v0.Arcs),.sl (List.map (TV.int .i64) v0.Leaders),.sl (List.map TV.str v0.Locks),.int .i64 v0.Start,.int .i64 v0.Delta]⟩) (hi0 : o0 < τ.next) (Q : TEx → au) (hQ0 : ∀ v : Unit,r = (.ex v) → ∀ (fr : TF) (tk2 : TK) (τ2 : TH),lkp fr 1 = .ptr o0 0 → lkp fr 3 = .int .i64 v1 → tk2.take 0 = [] → τ2.cut τ.next = τ → Q (.exit 2) fr tk2 τ2) (hQ1 : ∀ v : Bool,r = (.rt v) → ∀ (tk2 : TK) (τ2 : TH),τ2.cut τ.next = τ → Q .ret [(2,.bool v)] tk2 τ2) ,tW G (.loop [1,3,4] t7) Q [(1,.ptr o0 0),(3,.int .i64 v1),(4,.int .i64 v2)] [] τ
theorem zdcm (v0 : aa) (v1 : Int) (v2 : Int) (r : LX (Unit) (Bool)) (h : ia v0 v1 v2 = some r) : tf v0 v1 v2 r := by
 refine bf (f := fun st => eu v0 v1 st) (P := fun st r => ∀ (v2 : Int),v2 = st → tf v0 v1 v2 r) ?_ h v2 rfl
 clear h r v2
 intro st o h r ih v2 hst τ o0 hl ha0 hi0 Q hQ0 hQ1
 subst hst
 have h : eu v0 v1 v2 = some o := h
 unfold eu at h
 refine jo fun LQ hn hr he => ?_
 obtain ⟨y1,hy1,h⟩ := ob h
 have f2 := aw hy1
 have f2a := (f2.2.2 ag.tv).1
 have f2b := (f2.2.2 ag.tv).2
 try simp only [CL] at f2 f2a f2b
 by_cases c3 : v2 < ((y1.Keys.length : Nat) : Int)
 · rw [if_pos c3] at h
   obtain ⟨y4,hy4,h⟩ := ob h
   have f5 := aw hy4
   have f5a := (f5.2.2 TV.str).1
   have f5b := (f5.2.2 TV.str).2
   try simp only [CL,MC,reduceToNat] at f5 f5a f5b
   by_cases c6 : (40 : Int) < ((y4.size : Nat) : Int)
   · rw [if_pos c6] at h
     injection h with h; subst h
     obtain rfl : _ = r := ih
     simp only [t7,bc,TT,Ic.t,ci,reduceEqDiff,reduceAdd,ha0,hi0,he,hr,f2.1,f2.2.1,f2a,c3,f5.1,f5a,c6]
     exact hQ1 false rfl _ _ (by simp only [TT])
   rw [if_neg c6] at h
   injection h with h; subst h
   have ih := ih (IntKind.i64.wrap (v2 + (1 : Int))) rfl
   unfold tf at ih
   simp only [t7,bc,TT,Ic.t,ci,reduceEqDiff,reduceAdd,reduceCtorEq,ha0,hi0,f2.1,f2.2.1,f2a,c3,f5.1,f5a,c6]
   rw [hn]
   simp only [TT,reduceEqDiff,hi0]
   exact ih τ o0 (by assumption) (by simp only [ha0]) (by assumption) Q hQ0 hQ1
 rw [if_neg c3] at h
 injection h with h; subst h
 obtain rfl : _ = r := ih
 simp only [t7,bc,TT,Ic.t,ci,reduceEqDiff,reduceAdd,reduceCtorEq,ha0,he,f2.1,f2.2.1,f2a,c3]
 exact hQ0 () rfl _ _ _ (by rfl) (by rfl) (by rfl) (by simp only [TT])
noncomputable def ev (v0 : aa) (v1 : Int) : Option (LS (Int) (LX (Unit) (Bool))) :=
 if v1 < ((v0.Parties.length : Nat) : Int) then
  ixL v0.Parties v1 >>= fun y2 =>
  if (6 : Int) < ((y2.Keys.length : Nat) : Int) then
   some (.dn (.rt false))
  else
  if (40 : Int) < ((y2.Account.size : Nat) : Int) then
   some (.dn (.rt false))
  else
  ia v0 v1 (0 : Int) >>= fun y6 =>
  match y6 with
  | .ex w7 =>
   some (.nx (IntKind.i64.wrap (v1 + (1 : Int))))
  | .rt w9 =>
   some (.dn (.rt w9))
 else
 some (.dn (.ex ()))
noncomputable def ib (v0 : aa) (v1 : Int) : Option (LX (Unit) (Bool)) := kx (fun st => ev v0 st) v1
theorem zc3h (v0 : aa) (v1 : Int) : ib v0 v1 = ev v0 v1 >>= LS.go (fun st => ib v0 st) := bu (fun st => ev v0 st) v1
def tg (v0 : aa) (v1 : Int) (r : LX (Unit) (Bool)) : Prop := ∀ (τ : TH) (o0 : Nat) (hl : τ.lock ≤ τ.next) (ha0 : τ.at o0 = some ⟨am,[.str v0.ID,.sl (List.map ag.tv v0.Parties),.sl (List.map ac.tv v0.Arcs),.sl (List.map (TV.int .i64) v0.Leaders),.sl (List.map TV.str v0.Locks),.int .i64 v0.Start,.int .i64 v0.Delta]⟩) (hi0 : o0 < τ.next) (Q : TEx → au) (hQ0 : ∀ v : Unit,r = (.ex v) → ∀ (fr : TF) (tk2 : TK) (τ2 : TH),lkp fr 1 = .ptr o0 0 → tk2.take 0 = [] → τ2.cut τ.next = τ → Q (.exit 0) fr tk2 τ2) (hQ1 : ∀ v : Bool,r = (.rt v) → ∀ (tk2 : TK) (τ2 : TH),τ2.cut τ.next = τ → Q .ret [(2,.bool v)] tk2 τ2) ,tW G (.loop [1,3] l7) Q [(1,.ptr o0 0),(3,.int .i64 v1)] [] τ
theorem zdcl (v0 : aa) (v1 : Int) (r : LX (Unit) (Bool)) (h : ib v0 v1 = some r) : tg v0 v1 r := by
 refine bf (f := fun st => ev v0 st) (P := fun st r => ∀ (v1 : Int),v1 = st → tg v0 v1 r) ?_ h v1 rfl
 clear h r v1
 intro st o h r ih v1 hst τ o0 hl ha0 hi0 Q hQ0 hQ1
 subst hst
 have h : ev v0 v1 = some o := h
 unfold ev at h
 refine jo fun LQ hn hr he => ?_
 by_cases c1 : v1 < ((v0.Parties.length : Nat) : Int)
 · rw [if_pos c1] at h
   obtain ⟨y2,hy2,h⟩ := ob h
   have f3 := aw hy2
   have f3a := (f3.2.2 ag.tv).1
   have f3b := (f3.2.2 ag.tv).2
   try simp only [CL] at f3 f3a f3b
   by_cases c4 : (6 : Int) < ((y2.Keys.length : Nat) : Int)
   · rw [if_pos c4] at h
     injection h with h; subst h
     obtain rfl : _ = r := ih
     simp only [l7,bc,TT,Ic.t,ci,reduceEqDiff,reduceAdd,ha0,he,hr,c1,f3.1,f3a,c4]
     exact hQ1 false rfl _ _ (by simp only [TT])
   rw [if_neg c4] at h
   by_cases c5 : (40 : Int) < ((y2.Account.size : Nat) : Int)
   · rw [if_pos c5] at h
     injection h with h; subst h
     obtain rfl : _ = r := ih
     simp only [l7,bc,TT,Ic.t,ci,reduceEqDiff,reduceAdd,ha0,he,hr,c1,f3.1,f3a,c4,c5]
     exact hQ1 false rfl _ _ (by simp only [TT])
   rw [if_neg c5] at h
   obtain ⟨y6,hy6,h⟩ := ob h
   simp only [l7,bc,TT,Ic.t,ci,reduceEqDiff,reduceAdd,reduceCtorEq,ha0,c1,f3.1,f3a,c4,c5]
   have Sy6 := zdcm v0 v1 (0 : Int) y6 hy6
   unfold tf at Sy6
   refine Sy6 _ o0 (by assumption) (by simp only [ha0]) (by assumption) _ ?_ ?_
   · intro w7 e frq8 tkq8 τq8 g1q8 g3q8 htq8 hcq8
     subst e
     simp only at h
     have hcq8 := az (n := τ.next) hcq8 (by omega)
     try simp only [List.take_zero] at htq8
     try simp only [TT] at hcq8
     injection h with h; subst h
     have ih := ih (IntKind.i64.wrap (v1 + (1 : Int))) rfl
     unfold tg at ih
     simp only [TT,reduceEqDiff,hi0,g1q8,g3q8,hcq8]
     rw [hn]
     simp only [TT,reduceEqDiff,hi0]
     exact ih τ o0 (by assumption) (by simp only [ha0]) (by assumption) Q hQ0 hQ1
   intro w9 e tkq10 τq10 hcq10
   subst e
   simp only at h
   have hcq10 := az (n := τ.next) hcq10 (by omega)
   try simp only [TT] at hcq10
   injection h with h; subst h
   obtain rfl : _ = r := ih
   simp only [TT,hr]
   exact hQ1 w9 rfl _ _ (by simp only [hcq10])
 rw [if_neg c1] at h
 injection h with h; subst h
 obtain rfl : _ = r := ih
 simp only [l7,bc,TT,Ic.t,ci,reduceEqDiff,reduceCtorEq,ha0,he,c1]
 exact hQ0 () rfl _ _ _ (by rfl) (by rfl) (by simp only [TT])
noncomputable def er (v0 : aa) (v1 : Int) : Option (LS (Int) (LX (Unit) (Bool))) :=
 if v1 < ((v0.Arcs.length : Nat) : Int) then
  ixL v0.Arcs v1 >>= fun y2 =>
  if (40 : Int) < ((y2.Asset.size : Nat) : Int) then
   some (.dn (.rt false))
  else
  some (.nx (IntKind.i64.wrap (v1 + (1 : Int))))
 else
 some (.dn (.ex ()))
noncomputable def d9 (v0 : aa) (v1 : Int) : Option (LX (Unit) (Bool)) := kx (fun st => er v0 st) v1
theorem zc3j (v0 : aa) (v1 : Int) : d9 v0 v1 = er v0 v1 >>= LS.go (fun st => d9 v0 st) := bu (fun st => er v0 st) v1
def te (v0 : aa) (v1 : Int) (r : LX (Unit) (Bool)) : Prop := ∀ (τ : TH) (o0 : Nat) (hl : τ.lock ≤ τ.next) (ha0 : τ.at o0 = some ⟨am,[.str v0.ID,.sl (List.map ag.tv v0.Parties),.sl (List.map ac.tv v0.Arcs),.sl (List.map (TV.int .i64) v0.Leaders),.sl (List.map TV.str v0.Locks),.int .i64 v0.Start,.int .i64 v0.Delta]⟩) (hi0 : o0 < τ.next) (Q : TEx → au) (hQ0 : ∀ v : Unit,r = (.ex v) → ∀ (fr : TF) (tk2 : TK) (τ2 : TH),lkp fr 1 = .ptr o0 0 → tk2.take 0 = [] → τ2.cut τ.next = τ → Q (.exit 4) fr tk2 τ2) (hQ1 : ∀ v : Bool,r = (.rt v) → ∀ (tk2 : TK) (τ2 : TH),τ2.cut τ.next = τ → Q .ret [(2,.bool v)] tk2 τ2) ,tW G (.loop [1,5] t6) Q [(1,.ptr o0 0),(5,.int .i64 v1)] [] τ
theorem zdcn (v0 : aa) (v1 : Int) (r : LX (Unit) (Bool)) (h : d9 v0 v1 = some r) : te v0 v1 r := by
 refine bf (f := fun st => er v0 st) (P := fun st r => ∀ (v1 : Int),v1 = st → te v0 v1 r) ?_ h v1 rfl
 clear h r v1
 intro st o h r ih v1 hst τ o0 hl ha0 hi0 Q hQ0 hQ1
 subst hst
 have h : er v0 v1 = some o := h
 unfold er at h
 refine jo fun LQ hn hr he => ?_
 by_cases c1 : v1 < ((v0.Arcs.length : Nat) : Int)
 · rw [if_pos c1] at h
   obtain ⟨y2,hy2,h⟩ := ob h
   have f3 := aw hy2
   have f3a := (f3.2.2 ac.tv).1
   have f3b := (f3.2.2 ac.tv).2
   try simp only [CL] at f3 f3a f3b
   by_cases c4 : (40 : Int) < ((y2.Asset.size : Nat) : Int)
   · rw [if_pos c4] at h
     injection h with h; subst h
     obtain rfl : _ = r := ih
     simp only [t6,bc,TT,Ic.t,ci,reduceEqDiff,reduceAdd,ha0,hi0,he,hr,c1,f3.1,f3a,c4]
     exact hQ1 false rfl _ _ (by simp only [TT])
   rw [if_neg c4] at h
   injection h with h; subst h
   have ih := ih (IntKind.i64.wrap (v1 + (1 : Int))) rfl
   unfold te at ih
   simp only [t6,bc,TT,Ic.t,ci,reduceEqDiff,reduceAdd,reduceCtorEq,ha0,hi0,c1,f3.1,f3a,c4]
   rw [hn]
   simp only [TT,reduceEqDiff,hi0]
   exact ih τ o0 (by assumption) (by simp only [ha0]) (by assumption) Q hQ0 hQ1
 rw [if_neg c1] at h
 injection h with h; subst h
 obtain rfl : _ = r := ih
 simp only [t6,bc,TT,Ic.t,ci,reduceEqDiff,reduceCtorEq,ha0,he,c1]
 exact hQ0 () rfl _ _ _ (by rfl) (by rfl) (by simp only [TT])
noncomputable def eq (v0 : aa) (v1 : Int) : Option (LS (Int) (LX (Unit) (Bool))) :=
 if v1 < ((v0.Locks.length : Nat) : Int) then
  ixL v0.Locks v1 >>= fun y2 =>
  if (40 : Int) < ((y2.size : Nat) : Int) then
   some (.dn (.rt false))
  else
  some (.nx (IntKind.i64.wrap (v1 + (1 : Int))))
 else
 some (.dn (.ex ()))
noncomputable def d8 (v0 : aa) (v1 : Int) : Option (LX (Unit) (Bool)) := kx (fun st => eq v0 st) v1
theorem zc3k (v0 : aa) (v1 : Int) : d8 v0 v1 = eq v0 v1 >>= LS.go (fun st => d8 v0 st) := bu (fun st => eq v0 st) v1
def td (v0 : aa) (v1 : Int) (r : LX (Unit) (Bool)) : Prop := ∀ (τ : TH) (o0 : Nat) (hl : τ.lock ≤ τ.next) (ha0 : τ.at o0 = some ⟨am,[.str v0.ID,.sl (List.map ag.tv v0.Parties),.sl (List.map ac.tv v0.Arcs),.sl (List.map (TV.int .i64) v0.Leaders),.sl (List.map TV.str v0.Locks),.int .i64 v0.Start,.int .i64 v0.Delta]⟩) (hi0 : o0 < τ.next) (Q : TEx → au) (hQ0 : ∀ v : Unit,r = (.ex v) → ∀ (fr : TF) (tk2 : TK) (τ2 : TH),tk2.take 0 = [] → τ2.cut τ.next = τ → Q (.exit 6) fr tk2 τ2) (hQ1 : ∀ v : Bool,r = (.rt v) → ∀ (tk2 : TK) (τ2 : TH),τ2.cut τ.next = τ → Q .ret [(2,.bool v)] tk2 τ2) ,tW G (.loop [1,6] t5) Q [(1,.ptr o0 0),(6,.int .i64 v1)] [] τ
theorem zdco (v0 : aa) (v1 : Int) (r : LX (Unit) (Bool)) (h : d8 v0 v1 = some r) : td v0 v1 r := by
 refine bf (f := fun st => eq v0 st) (P := fun st r => ∀ (v1 : Int),v1 = st → td v0 v1 r) ?_ h v1 rfl
 clear h r v1
 intro st o h r ih v1 hst τ o0 hl ha0 hi0 Q hQ0 hQ1
 subst hst
 have h : eq v0 v1 = some o := h
 unfold eq at h
 refine jo fun LQ hn hr he => ?_
 by_cases c1 : v1 < ((v0.Locks.length : Nat) : Int)
 · rw [if_pos c1] at h
   obtain ⟨y2,hy2,h⟩ := ob h
   have f3 := aw hy2
   have f3a := (f3.2.2 TV.str).1
   have f3b := (f3.2.2 TV.str).2
   try simp only [CL,MC,reduceToNat] at f3 f3a f3b
   by_cases c4 : (40 : Int) < ((y2.size : Nat) : Int)
   · rw [if_pos c4] at h
     injection h with h; subst h
     obtain rfl : _ = r := ih
     simp only [t5,bc,TT,Ic.t,ci,reduceEqDiff,ha0,hi0,he,hr,c1,f3.1,f3a,c4]
     exact hQ1 false rfl _ _ (by simp only [TT])
   rw [if_neg c4] at h
   injection h with h; subst h
   have ih := ih (IntKind.i64.wrap (v1 + (1 : Int))) rfl
   unfold td at ih
   simp only [t5,bc,TT,Ic.t,ci,reduceEqDiff,reduceCtorEq,ha0,hi0,c1,f3.1,f3a,c4]
   rw [hn]
   simp only [TT,reduceEqDiff,hi0]
   exact ih τ o0 (by assumption) (by simp only [ha0]) (by assumption) Q hQ0 hQ1
 rw [if_neg c1] at h
 injection h with h; subst h
 obtain rfl : _ = r := ih
 simp only [t5,bc,TT,Ic.t,ci,reduceEqDiff,reduceCtorEq,ha0,he,c1]
 exact hQ0 () rfl _ _ _ (by rfl) (by simp only [TT])
noncomputable def qw (p1 : aa) : Option Bool :=
 if (10 : Int) < ((p1.Parties.length : Nat) : Int) then
  some false
 else
 if (20 : Int) < ((p1.Arcs.length : Nat) : Int) then
  some false
 else
 if (6 : Int) < ((p1.Leaders.length : Nat) : Int) then
  some false
 else
 if (6 : Int) < ((p1.Locks.length : Nat) : Int) then
  some false
 else
 if (40 : Int) < ((p1.ID.size : Nat) : Int) then
  some false
 else
 ib p1 (0 : Int) >>= fun y6 =>
 match y6 with
 | .ex w7 =>
  d9 p1 (0 : Int) >>= fun y11 =>
  match y11 with
  | .ex w12 =>
   d8 p1 (0 : Int) >>= fun y16 =>
   match y16 with
   | .ex w17 =>
    some true
   | .rt w19 =>
    some w19
  | .rt w14 =>
   some w14
 | .rt w9 =>
  some w9
theorem zcxp (p1 : aa) (r : Bool) (h : qw p1 = some r) (τ : TH) (hl : τ.lock ≤ τ.next) : Ru G ve [.agg [.str p1.ID,.sl (List.map ag.tv p1.Parties),.sl (List.map ac.tv p1.Arcs),.sl (List.map (TV.int .i64) p1.Leaders),.sl (List.map TV.str p1.Locks),.int .i64 p1.Start,.int .i64 p1.Delta]] τ (.bool r) τ := by
 refine jv fun K hK => ?_
 rw [bh zdek (Nat.le_of_ble_eq_true rfl)]
 unfold qw at h
 by_cases c1 : (10 : Int) < ((p1.Parties.length : Nat) : Int)
 · rw [if_pos c1] at h
   injection h with h; subst h
   simp only [bc,TT,Ic.t,ci,reduceEqDiff,c1]
   exact hK
 rw [if_neg c1] at h
 by_cases c2 : (20 : Int) < ((p1.Arcs.length : Nat) : Int)
 · rw [if_pos c2] at h
   injection h with h; subst h
   simp only [bc,TT,Ic.t,ci,reduceEqDiff,c1,c2]
   exact hK
 rw [if_neg c2] at h
 by_cases c3 : (6 : Int) < ((p1.Leaders.length : Nat) : Int)
 · rw [if_pos c3] at h
   injection h with h; subst h
   simp only [bc,TT,Ic.t,ci,reduceEqDiff,c1,c2,c3]
   exact hK
 rw [if_neg c3] at h
 by_cases c4 : (6 : Int) < ((p1.Locks.length : Nat) : Int)
 · rw [if_pos c4] at h
   injection h with h; subst h
   simp only [bc,TT,Ic.t,ci,reduceEqDiff,c1,c2,c3,c4]
   exact hK
 rw [if_neg c4] at h
 by_cases c5 : (40 : Int) < ((p1.ID.size : Nat) : Int)
 · rw [if_pos c5] at h
   injection h with h; subst h
   simp only [bc,TT,Ic.t,ci,reduceEqDiff,c1,c2,c3,c4,c5]
   exact hK
 rw [if_neg c5] at h
 obtain ⟨y6,hy6,h⟩ := ob h
 simp only [bc,TT,Ic.t,ci,reduceEqDiff,reduceCtorEq,c1,c2,c3,c4,c5]
 have Sy6 := zdcl p1 (0 : Int) y6 hy6
 unfold tg at Sy6
 refine Sy6 _ τ.next (by simp only [aj,ap]; omega) (by simp only [TT]) (by simp only [aj]; omega) _ ?_ ?_
 · intro w7 e frq8 tkq8 τq8 g1q8 htq8 hcq8
   subst e
   simp only at h
   have hcq8 := az (n := τ.next + 1) hcq8 (by simp only [aj]; omega)
   try simp only [List.take_zero] at htq8
   try simp only [TT] at hcq8
   obtain ⟨y11,hy11,h⟩ := ob h
   simp only [TT,reduceEqDiff,reduceLT,g1q8,hcq8]
   have Sy11 := zdcn p1 (0 : Int) y11 hy11
   unfold te at Sy11
   refine Sy11 _ τ.next (by simp only [aj,ap]; omega) (by simp only [TT]) (by simp only [aj]; omega) _ ?_ ?_
   · intro w12 e frq13 tkq13 τq13 g1q13 htq13 hcq13
     subst e
     simp only at h
     have hcq13 := az (n := τ.next + 1) hcq13 (by simp only [aj]; omega)
     try simp only [List.take_zero] at htq13
     try simp only [TT] at hcq13
     obtain ⟨y16,hy16,h⟩ := ob h
     simp only [TT,reduceEqDiff,reduceLT,g1q13,hcq13]
     have Sy16 := zdco p1 (0 : Int) y16 hy16
     unfold td at Sy16
     refine Sy16 _ τ.next (by simp only [aj,ap]; omega) (by simp only [TT]) (by simp only [aj]; omega) _ ?_ ?_
     · intro w17 e frq18 tkq18 τq18 htq18 hcq18
       subst e
       simp only at h
       have hcq18 := az (n := τ.next + 1) hcq18 (by simp only [aj]; omega)
       try simp only [List.take_zero] at htq18
       try simp only [TT] at hcq18
       injection h with h; subst h
       simp only [TT,hcq18]
       exact hK
     intro w19 e tkq20 τq20 hcq20
     subst e
     simp only at h
     have hcq20 := az (n := τ.next) hcq20 (by simp only [aj]; omega)
     try simp only [TT] at hcq20
     injection h with h; subst h
     simp only [TT,hcq20]
     exact hK
   intro w14 e tkq15 τq15 hcq15
   subst e
   simp only at h
   have hcq15 := az (n := τ.next) hcq15 (by simp only [aj]; omega)
   try simp only [TT] at hcq15
   injection h with h; subst h
   simp only [TT,hcq15]
   exact hK
 intro w9 e tkq10 τq10 hcq10
 subst e
 simp only at h
 have hcq10 := az (n := τ.next) hcq10 (by simp only [aj]; omega)
 try simp only [TT] at hcq10
 injection h with h; subst h
 simp only [TT,hcq10]
 exact hK
theorem zdfx (p1 : aa) (r : Bool) (h : qw p1 = some r) (lk : Bool) (d : Option Nat) (K : au) (fr : TF) (tk : TK) (τ : TH) (hl : τ.lock ≤ τ.next) : eo G lk ve [.agg [.str p1.ID,.sl (List.map ag.tv p1.Parties),.sl (List.map ac.tv p1.Arcs),.sl (List.map (TV.int .i64) p1.Leaders),.sl (List.map TV.str p1.Locks),.int .i64 p1.Start,.int .i64 p1.Delta]] d K fr tk τ = K (fv fr d (.bool r)) tk τ :=
 av (zcxp p1 r h τ hl) (zcxp p1 r h (τ.locked τ.next) (Nat.le_refl _) ) (by simp only [TT])
open Go Go.RowKit Sh Ic
def zw (v : Int) : Option ByteArray := if 0 ≤ v ∧ v < 10 then some ((⟨#[48,49,50,51,52,53,54,55,56,57]⟩ : ByteArray).extract v.toNat (v.toNat + 1)) else none
theorem zbui (v : Int) (h0 : 0 ≤ v) (h9 : v < 10) (τ : TH) (hl : τ.lock ≤ τ.next) : Ru G ni [.int .i64 v] τ (.str ((⟨#[48,49,50,51,52,53,54,55,56,57]⟩ : ByteArray).extract v.toNat (v.toNat + 1))) τ := by
 refine jv fun K hK => ?_
 rw [bh zdbr (Nat.le_of_ble_eq_true rfl)]
 have c1 : ¬ v ≤ -10 := by omega
 have c2 : ¬ v < 0 := by omega
 have w1 : IntKind.i64.wrap (v + 1) = v + 1 := IntWalk.i64_in _ ⟨by omega,by omega⟩
 have t1 : (v + 1).toNat = v.toNat + 1 := by omega
 have b1 : 0 ≤ v + 1 := by omega
 have b2 : v + 1 ≤ 10 := by omega
 have b3 : v ≤ v + 1 := by omega
 have z : ((ByteArray.size ⟨#[48,49,50,51,52,53,54,55,56,57]⟩ : Nat) : Int) = 10 := rfl
 simp only [zda4,TT,Ic.t,Ic.ci,Nat.reduceEqDiff,reduceCtorEq,c1,c2,h9,w1,t1,h0,b1,b2,z,mp,tHi,tLo]
 exact ⟨by omega,hK⟩
theorem zcfn (p1 : Int) (r : ByteArray) (h : zw p1 = some r) (lk : Bool) (d : Option Nat) (K : au) (fr : TF) (tk : TK) (τ : TH) (hl : τ.lock ≤ τ.next) : eo G lk ni [.int .i64 p1] d K fr tk τ = K (fv fr d (.str r)) tk τ := by
 obtain ⟨⟨h1,h2⟩,h⟩ := ifS h
 injection h with h
 subst h
 have hr := fun τ hl => zbui p1 h1 h2 τ hl
 exact av (hr _ hl) (hr _ (Nat.le_refl _)) (by simp only [TT])
end Go.Proofs.Ytdcfoaafkppojaa
