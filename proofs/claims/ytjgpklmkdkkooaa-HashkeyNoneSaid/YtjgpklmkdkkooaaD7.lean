import Derived.Test.YtjgpklmkdkkooaaM25
set_option linter.unusedVariables false
set_option linter.unusedSimpArgs false
set_option linter.unusedSectionVars false
open Nat (reduceEqDiff reduceAdd reduceLT)
open Int (reduceToNat reduceEq)
namespace Go.Proofs.Ytjgpklmkdkkooaa
open Go Go.RowKit Sh Ic
noncomputable section
def yk (p1:af) (p2:Int) (p3:Bool):Option (List Bool):=reF p1 p2 p3 fun v => vk v
theorem zc06 (p1:af) (p2:Int) (p3:Bool) (r:(List Bool)) (h:yk p1 p2 p3 = some r) (τ:TH) (hl:τ.lock ≤ τ.next):Ru G me [.agg p1.cells,.int .i64 p2,.bool p3,.func lx [] []] τ (.sl (List.map TV.bool r)) τ :=
 zcqf τ hl p1 p2 p3 lx [] _ ⟨fun n hn => ⟨by first | rfl | (simp [ju,TV.under]; omega),by first | rfl | (simp [ltL,TV.lt]; omega)⟩,fun v r hv lk d K fr tk τ2 h1 h2 h3 => zdki v  r hv lk d K fr tk τ2  (by rw [h1]; exact Nat.le_trans hl h2) ⟩ r h
theorem zc05 (p1:af) (p2:Int) (p3:Bool) (r:(List Bool)) (h:yk p1 p2 p3 = some r) (lk:Bool) (d:Option Nat) (K:ap) (fr:TF) (tk:TK) (τ:TH) (hl:τ.lock ≤ τ.next):du G lk me [.agg p1.cells,.int .i64 p2,.bool p3,.func lx [] []] d K fr tk τ = K (fp fr d (.sl (List.map TV.bool r))) tk τ :=
 au (zc06 p1 p2 p3 r h τ  hl) (zc06 p1 p2 p3 r h (τ.locked τ.next)  (Nat.le_refl _) ) (by simp only [TT,CL])
def b9 (v0:(List Bool)) (v1:Bool) (v2:Int) (v3:Int):Option (LS (Int) (LX (Unit) (Int))) :=
 if v3 < v2 then
  ixL v0 v3 >>= fun y2 =>
  if (v1 == y2) = true then
   some (.dn (.rt v3))
  else
  some (.nx (IntKind.i64.wrap (v3 + (1:Int))))
 else
 some (.dn (.ex ()))
def gg (v0:(List Bool)) (v1:Bool) (v2:Int) (v3:Int):Option (LX (Unit) (Int)):=oq (fun st => b9 v0 v1 v2 st) v3
theorem uh (v0:(List Bool)) (v1:Bool) (v2:Int) (v3:Int):gg v0 v1 v2 v3 = b9 v0 v1 v2 v3 >>= LS.go (fun st => gg v0 v1 v2 st):=ew (fun st => b9 v0 v1 v2 st) v3
def ka (v0:(List Bool)) (v1:Bool) (v2:Int) (v3:Int) (r:LX (Unit) (Int)):Prop:=∀ (τ:TH) (hl:τ.lock ≤ τ.next) (Q:TEx → ap) (hQ0:∀ v:Unit,r = (.ex v) → ∀ (fr:TF) (tk2:TK) (τ2:TH),tk2.take 0 = [] → τ2.cut τ.next = τ → Q (.exit 0) fr tk2 τ2) (hQ1:∀ v:Int,r = (.rt v) → ∀ (tk2:TK) (τ2:TH),τ2.cut τ.next = τ → Q .ret [(4,.int .i64 v)] tk2 τ2) ,tW G (.loop [0,1,7,8] jn) Q [(0,.sl (List.map TV.bool v0)),(1,.bool v1),(7,.int .i64 v2),(8,.int .i64 v3)] [] τ
theorem zdh5 (v0:(List Bool)) (v1:Bool) (v2:Int) (v3:Int) (r:LX (Unit) (Int)) (h:gg v0 v1 v2 v3 = some r):ka v0 v1 v2 v3 r:=by
 refine di (f:=fun st => b9 v0 v1 v2 st) (P:=fun st r => ∀ (v3:Int),v3 = st → ka v0 v1 v2 v3 r) ?_ h v3 rfl
 clear h r v3
 intro st o h r ih v3 hst τ  hl Q hQ0 hQ1
 subst hst
 have h:b9 v0 v1 v2 v3 = some o:=h
 unfold b9 at h
 refine mo fun LQ hn hr he => ?_
 by_cases c1:v3 < v2
 · rw [if_pos c1] at h
   obtain ⟨y2,hy2,h⟩:=ob h
   have f3:=av hy2
   have f3a:=(f3.2.2 TV.bool).1
   have f3b:=(f3.2.2 TV.bool).2
   try simp only [CL,MC,reduceToNat] at f3 f3a f3b
   by_cases c4:(v1 == y2) = true
   · rw [if_pos c4] at h
     injection h with h; subst h
     obtain rfl:_ = r:=ih
     simp only [jn,ij,TT,Ic.t,ci,reduceEqDiff,reduceCtorEq,he,hr,c1,f3.1,f3.2.1,f3a,c4]
     exact hQ1 v3 rfl  _ _  (by simp only [TT])
   rw [if_neg c4] at h
   have c4:=Bool.eq_false_iff.2 c4
   injection h with h; subst h
   have ih:=ih (IntKind.i64.wrap (v3 + (1:Int))) rfl
   unfold ka at ih
   simp only [jn,ij,TT,Ic.t,ci,reduceEqDiff,reduceCtorEq,c1,f3.1,f3.2.1,f3a,c4]
   rw [hn]
   simp only [TT,reduceEqDiff,reduceCtorEq]
   exact ih  τ    (by assumption) Q hQ0 hQ1
 rw [if_neg c1] at h
 injection h with h; subst h
 obtain rfl:_ = r:=ih
 simp only [jn,ij,TT,Ic.t,ci,reduceEqDiff,reduceCtorEq,he,c1]
 exact hQ0 () rfl  _ _ _   (by rfl) (by simp only [TT])
def kl (p1:(List Bool)) (p2:Bool):Option Int :=
 gg p1 p2 ((p1.length:Nat):Int) (0:Int) >>= fun y1 =>
 match y1 with
 | .ex w2 =>
  some (-1:Int)
 | .rt w4 =>
  some w4
theorem yv (p1:(List Bool)) (p2:Bool) (r:Int) (h:kl p1 p2 = some r) (τ:TH) (hl:τ.lock ≤ τ.next):Ru G ik [.sl (List.map TV.bool p1),.bool p2] τ (.int .i64 r) τ:=by
 refine gp fun K hK => ?_
 rw [bc zdgw (Nat.le_of_ble_eq_true rfl)]
 unfold kl at h
 obtain ⟨y1,hy1,h⟩:=ob h
 simp only [ij,TT,Ic.t,ci,reduceEqDiff,reduceAdd,reduceCtorEq]
 have Sy1:=zdh5 p1 p2 ((p1.length:Nat):Int) (0:Int) y1 hy1
 unfold ka at Sy1
 refine Sy1 _ (by assumption) _ ?_ ?_
 · intro w2 e frq3 tkq3 τq3 htq3 hcq3
   subst e
   simp only at h
   have hcq3:=dp (n:=τ.next) hcq3 (by omega)
   try simp only [List.take_zero] at htq3
   try simp only [TT] at hcq3
   injection h with h; subst h
   simp only [TT,hcq3]
   exact hK
 intro w4 e tkq5 τq5 hcq5
 subst e
 simp only at h
 have hcq5:=dp (n:=τ.next) hcq5 (by omega)
 try simp only [TT] at hcq5
 injection h with h; subst h
 simp only [TT,hcq5]
 exact hK
theorem zdhe (p1:(List Bool)) (p2:Bool) (r:Int) (h:kl p1 p2 = some r) (lk:Bool) (d:Option Nat) (K:ap) (fr:TF) (tk:TK) (τ:TH) (hl:τ.lock ≤ τ.next):du G lk ik [.sl (List.map TV.bool p1),.bool p2] d K fr tk τ = K (fp fr d (.int .i64 r)) tk τ :=
 au (yv p1 p2 r h τ  hl) (yv p1 p2 r h (τ.locked τ.next)  (Nat.le_refl _) ) (by simp only [TT])
def ej (p1:(List Bool)) (p2:Bool):Option Bool :=
 kl p1 p2 >>= fun y1 =>
 some (decide ((0:Int) ≤ y1))
theorem uz (p1:(List Bool)) (p2:Bool) (r:Bool) (h:ej p1 p2 = some r) (τ:TH) (hl:τ.lock ≤ τ.next):Ru G eu [.sl (List.map TV.bool p1),.bool p2] τ (.bool r) τ:=by
 refine gp fun K hK => ?_
 rw [bc zdhi (Nat.le_of_ble_eq_true rfl)]
 unfold ej at h
 obtain ⟨y1,hy1,h⟩:=ob h
 have k2:=zdhe p1 p2 _ hy1
 try simp only [CL,MC,reduceToNat] at k2
 injection h with h; subst h
 simp only [zdhf,TT,Ic.t,ci,reduceEqDiff,reduceAdd,reduceCtorEq,hl,k2]
 exact hK
theorem u4 (p1:(List Bool)) (p2:Bool) (r:Bool) (h:ej p1 p2 = some r) (lk:Bool) (d:Option Nat) (K:ap) (fr:TF) (tk:TK) (τ:TH) (hl:τ.lock ≤ τ.next):du G lk eu [.sl (List.map TV.bool p1),.bool p2] d K fr tk τ = K (fp fr d (.bool r)) tk τ :=
 au (uz p1 p2 r h τ  hl) (uz p1 p2 r h (τ.locked τ.next)  (Nat.le_refl _) ) (by simp only [TT])
def vl (p1:af):Option Bool :=
 rn p1 >>= fun y1 =>
 if y1 = true then
  yk p1 (0:Int) false >>= fun y4 =>
  ej y4 false >>= fun y6 =>
  if y6 = true then
   some false
  else
  yk p1 (0:Int) true >>= fun y9 =>
  ej y9 false >>= fun y11 =>
  some (!y11)
 else
 some false
theorem zc1l (p1:af) (r:Bool) (h:vl p1 = some r) (τ:TH) (hl:τ.lock ≤ τ.next):Ru G vn [.agg p1.cells] τ (.bool r) τ:=by
 refine gp fun K hK => ?_
 rw [bc zdf6 (Nat.le_of_ble_eq_true rfl)]
 unfold vl at h
 obtain ⟨y1,hy1,h⟩:=ob h
 have k2:=zcfr p1 _ hy1
 try simp only [CL] at k2
 by_cases c3:y1 = true
 · rw [if_pos c3] at h
   obtain ⟨y4,hy4,h⟩:=ob h
   have k5:=zc05 p1 (0:Int) false _ hy4
   try simp only [CL] at k5
   obtain ⟨y6,hy6,h⟩:=ob h
   have k7:=u4 y4 false _ hy6
   try simp only [CL,MC,reduceToNat] at k7
   by_cases c8:y6 = true
   · rw [if_pos c8] at h
     injection h with h; subst h
     simp only [zckl,TT,Ic.t,ci,reduceEqDiff,reduceAdd,reduceCtorEq,hl,k2,c3,k5,k7,c8,CL]
     first | exact hK | (simp only [hl,k2,c3,k5,k7,c8,CL] at hK; exact hK)
   rw [if_neg c8] at h
   have c8:=Bool.eq_false_iff.2 c8
   obtain ⟨y9,hy9,h⟩:=ob h
   have k10:=zc05 p1 (0:Int) true _ hy9
   try simp only [CL] at k10
   obtain ⟨y11,hy11,h⟩:=ob h
   have k12:=u4 y9 false _ hy11
   try simp only [CL,MC,reduceToNat] at k12
   injection h with h; subst h
   simp only [zckl,TT,Ic.t,ci,reduceEqDiff,reduceAdd,reduceCtorEq,hl,k2,c3,k5,k7,c8,k10,k12,CL]
   first | exact hK | (simp only [hl,k2,c3,k5,k7,c8,k10,k12,CL] at hK; exact hK)
 rw [if_neg c3] at h
 have c3:=Bool.eq_false_iff.2 c3
 injection h with h; subst h
 simp only [zckl,TT,Ic.t,ci,reduceEqDiff,reduceAdd,reduceCtorEq,hl,k2,c3,CL]
 first | exact hK | (simp only [hl,k2,c3,CL] at hK; exact hK)
theorem zdkh (p1:af) (r:Bool) (h:vl p1 = some r) (lk:Bool) (d:Option Nat) (K:ap) (fr:TF) (tk:TK) (τ:TH) (hl:τ.lock ≤ τ.next):du G lk vn [.agg p1.cells] d K fr tk τ = K (fp fr d (.bool r)) tk τ :=
 au (zc1l p1 r h τ  hl) (zc1l p1 r h (τ.locked τ.next)  (Nat.le_refl _) ) (by simp only [TT,CL])
def ch (v0:(List Int)) (v1:Int) (v2:Int) (v3:Int):Option (LS (Int) (LX (Unit) (Int))) :=
 if v3 < v2 then
  ixL v0 v3 >>= fun y2 =>
  if v1 = y2 then
   some (.dn (.rt v3))
  else
  some (.nx (IntKind.i64.wrap (v3 + (1:Int))))
 else
 some (.dn (.ex ()))
def gw (v0:(List Int)) (v1:Int) (v2:Int) (v3:Int):Option (LX (Unit) (Int)):=oq (fun st => ch v0 v1 v2 st) v3
theorem vx (v0:(List Int)) (v1:Int) (v2:Int) (v3:Int):gw v0 v1 v2 v3 = ch v0 v1 v2 v3 >>= LS.go (fun st => gw v0 v1 v2 st):=ew (fun st => ch v0 v1 v2 st) v3
def lz (v0:(List Int)) (v1:Int) (v2:Int) (v3:Int) (r:LX (Unit) (Int)):Prop:=∀ (τ:TH) (hl:τ.lock ≤ τ.next) (Q:TEx → ap) (hQ0:∀ v:Unit,r = (.ex v) → ∀ (fr:TF) (tk2:TK) (τ2:TH),tk2.take 0 = [] → τ2.cut τ.next = τ → Q (.exit 0) fr tk2 τ2) (hQ1:∀ v:Int,r = (.rt v) → ∀ (tk2:TK) (τ2:TH),τ2.cut τ.next = τ → Q .ret [(4,.int .i64 v)] tk2 τ2) ,tW G (.loop [0,1,7,8] kx) Q [(0,.sl (List.map (TV.int .i64) v0)),(1,.int .i64 v1),(7,.int .i64 v2),(8,.int .i64 v3)] [] τ
theorem zdhu (v0:(List Int)) (v1:Int) (v2:Int) (v3:Int) (r:LX (Unit) (Int)) (h:gw v0 v1 v2 v3 = some r):lz v0 v1 v2 v3 r:=by
 refine di (f:=fun st => ch v0 v1 v2 st) (P:=fun st r => ∀ (v3:Int),v3 = st → lz v0 v1 v2 v3 r) ?_ h v3 rfl
 clear h r v3
 intro st o h r ih v3 hst τ  hl Q hQ0 hQ1
 subst hst
 have h:ch v0 v1 v2 v3 = some o:=h
 unfold ch at h
 refine mo fun LQ hn hr he => ?_
 by_cases c1:v3 < v2
 · rw [if_pos c1] at h
   obtain ⟨y2,hy2,h⟩:=ob h
   have f3:=av hy2
   have f3a:=(f3.2.2 (TV.int .i64)).1
   have f3b:=(f3.2.2 (TV.int .i64)).2
   try simp only [CL,MC,reduceToNat] at f3 f3a f3b
   by_cases c4:v1 = y2
   · rw [if_pos c4] at h
     injection h with h; subst h
     obtain rfl:_ = r:=ih
     simp only [kx,jr,TT,Ic.t,ci,reduceEqDiff,reduceCtorEq,he,hr,c1,f3.1,f3.2.1,f3a,eq_true c4]
     exact hQ1 v3 rfl  _ _  (by simp only [TT])
   rw [if_neg c4] at h
   injection h with h; subst h
   have ih:=ih (IntKind.i64.wrap (v3 + (1:Int))) rfl
   unfold lz at ih
   simp only [kx,jr,TT,Ic.t,ci,reduceEqDiff,reduceCtorEq,c1,f3.1,f3.2.1,f3a,c4]
   rw [hn]
   simp only [TT,reduceEqDiff,reduceCtorEq]
   exact ih  τ    (by assumption) Q hQ0 hQ1
 rw [if_neg c1] at h
 injection h with h; subst h
 obtain rfl:_ = r:=ih
 simp only [kx,jr,TT,Ic.t,ci,reduceEqDiff,reduceCtorEq,he,c1]
 exact hQ0 () rfl  _ _ _   (by rfl) (by simp only [TT])
def mj (p1:(List Int)) (p2:Int):Option Int :=
 gw p1 p2 ((p1.length:Nat):Int) (0:Int) >>= fun y1 =>
 match y1 with
 | .ex w2 =>
  some (-1:Int)
 | .rt w4 =>
  some w4
theorem zc6r (p1:(List Int)) (p2:Int) (r:Int) (h:mj p1 p2 = some r) (τ:TH) (hl:τ.lock ≤ τ.next):Ru G jt [.sl (List.map (TV.int .i64) p1),.int .i64 p2] τ (.int .i64 r) τ:=by
 refine gp fun K hK => ?_
 rw [bc zdgr (Nat.le_of_ble_eq_true rfl)]
 unfold mj at h
 obtain ⟨y1,hy1,h⟩:=ob h
 simp only [jr,TT,Ic.t,ci,reduceEqDiff,reduceAdd,reduceCtorEq]
 have Sy1:=zdhu p1 p2 ((p1.length:Nat):Int) (0:Int) y1 hy1
 unfold lz at Sy1
 refine Sy1 _ (by assumption) _ ?_ ?_
 · intro w2 e frq3 tkq3 τq3 htq3 hcq3
   subst e
   simp only at h
   have hcq3:=dp (n:=τ.next) hcq3 (by omega)
   try simp only [List.take_zero] at htq3
   try simp only [TT] at hcq3
   injection h with h; subst h
   simp only [TT,hcq3]
   exact hK
 intro w4 e tkq5 τq5 hcq5
 subst e
 simp only at h
 have hcq5:=dp (n:=τ.next) hcq5 (by omega)
 try simp only [TT] at hcq5
 injection h with h; subst h
 simp only [TT,hcq5]
 exact hK
theorem zdg2 (p1:(List Int)) (p2:Int) (r:Int) (h:mj p1 p2 = some r) (lk:Bool) (d:Option Nat) (K:ap) (fr:TF) (tk:TK) (τ:TH) (hl:τ.lock ≤ τ.next):du G lk jt [.sl (List.map (TV.int .i64) p1),.int .i64 p2] d K fr tk τ = K (fp fr d (.int .i64 r)) tk τ :=
 au (zc6r p1 p2 r h τ  hl) (zc6r p1 p2 r h (τ.locked τ.next)  (Nat.le_refl _) ) (by simp only [TT])
def fq (p1:(List Int)) (p2:Int):Option Bool :=
 mj p1 p2 >>= fun y1 =>
 some (decide ((0:Int) ≤ y1))
theorem xb (p1:(List Int)) (p2:Int) (r:Bool) (h:fq p1 p2 = some r) (τ:TH) (hl:τ.lock ≤ τ.next):Ru G ft [.sl (List.map (TV.int .i64) p1),.int .i64 p2] τ (.bool r) τ:=by
 refine gp fun K hK => ?_
 rw [bc zdg3 (Nat.le_of_ble_eq_true rfl)]
 unfold fq at h
 obtain ⟨y1,hy1,h⟩:=ob h
 have k2:=zdg2 p1 p2 _ hy1
 try simp only [CL,MC,reduceToNat] at k2
 injection h with h; subst h
 simp only [zdg5,TT,Ic.t,ci,reduceEqDiff,reduceAdd,reduceCtorEq,hl,k2]
 exact hK
theorem xc (p1:(List Int)) (p2:Int) (r:Bool) (h:fq p1 p2 = some r) (lk:Bool) (d:Option Nat) (K:ap) (fr:TF) (tk:TK) (τ:TH) (hl:τ.lock ≤ τ.next):du G lk ft [.sl (List.map (TV.int .i64) p1),.int .i64 p2] d K fr tk τ = K (fp fr d (.bool r)) tk τ :=
 au (xb p1 p2 r h τ  hl) (xb p1 p2 r h (τ.locked τ.next)  (Nat.le_refl _) ) (by simp only [TT])
def ib (p1:Int) (p2:af):Option Bool :=
 fq p2.Leaders p1 >>= fun y1 =>
 some (!y1)
theorem zc5n (p1:Int) (p2:af) (r:Bool) (h:ib p1 p2 = some r) (τ:TH) (o0:Nat) (hl:τ.lock ≤ τ.next) (ha0:τ.at o0 = some ⟨bh,p2.cells⟩) (hi0:o0 < τ.next):Ru G gn [.int .i64 p1,.ptr o0 0] τ (.bool r) τ:=by
 refine gp fun K hK => ?_
 rw [bc zdla (Nat.le_of_ble_eq_true rfl)]
 unfold ib at h
 obtain ⟨y1,hy1,h⟩:=ob h
 have k2:=xc p2.Leaders p1 _ hy1
 try simp only [CL,MC,reduceToNat] at k2
 injection h with h; subst h
 simp only [zdlg,TT,Ic.t,reduceEqDiff,reduceAdd,reduceCtorEq,hl,ha0,k2,CL]
 exact hK
theorem zc5m (p1:Int) (p2:af) (r:Bool) (h:ib p1 p2 = some r) (lk:Bool) (d:Option Nat) (K:ap) (fr:TF) (tk:TK) (τ:TH) (o0:Nat) (hl:τ.lock ≤ τ.next) (ha0:τ.at o0 = some ⟨bh,p2.cells⟩) (hi0:o0 < τ.next):du G lk gn [.int .i64 p1,.ptr o0 0] d K fr tk τ = K (fp fr d (.bool r)) tk τ :=
 au (zc5n p1 p2 r h τ o0 hl ha0 hi0) (zc5n p1 p2 r h (τ.locked τ.next) o0 (Nat.le_refl _) (by rw [ww]; exact ha0) hi0) (by simp only [TT,hi0])
def zcah (p1:af) (p2:Int) (p3:Bool) (p4:af):Option (List Bool):=reF p1 p2 p3 fun v => ib v p4
theorem zc1n (p1:af) (p2:Int) (p3:Bool) (p4:af) (r:(List Bool)) (h:zcah p1 p2 p3 p4 = some r) (τ:TH) (o0:Nat) (hl:τ.lock ≤ τ.next) (ha0:τ.at o0 = some ⟨bh,p4.cells⟩) (hi0:o0 < τ.next):Ru G me [.agg p1.cells,.int .i64 p2,.bool p3,.func gn [] [.ptr o0 0]] τ (.sl (List.map TV.bool r)) τ :=
 zcqf τ hl p1 p2 p3 gn [.ptr o0 0] _ ⟨fun n hn => ⟨by first | rfl | (simp [ju,TV.under]; omega),by first | rfl | (simp [ltL,TV.lt]; omega)⟩,fun v r hv lk d K fr tk τ2 h1 h2 h3 => zc5m v p4 r hv lk d K fr tk τ2 o0 (by rw [h1]; exact Nat.le_trans hl h2) (by rw [← zb9o hi0,h3]; exact ha0) (Nat.lt_of_lt_of_le hi0 h2)⟩ r h
theorem zdkj (p1:af) (p2:Int) (p3:Bool) (p4:af) (r:(List Bool)) (h:zcah p1 p2 p3 p4 = some r) (lk:Bool) (d:Option Nat) (K:ap) (fr:TF) (tk:TK) (τ:TH) (o0:Nat) (hl:τ.lock ≤ τ.next) (ha0:τ.at o0 = some ⟨bh,p4.cells⟩) (hi0:o0 < τ.next):du G lk me [.agg p1.cells,.int .i64 p2,.bool p3,.func gn [] [.ptr o0 0]] d K fr tk τ = K (fp fr d (.sl (List.map TV.bool r))) tk τ :=
 au (zc1n p1 p2 p3 p4 r h τ o0 hl ha0 hi0) (zc1n p1 p2 p3 p4 r h (τ.locked τ.next) o0 (Nat.le_refl _) (by rw [ww]; exact ha0) hi0) (by simp only [TT,hi0,CL])
def dw (v0:af) (v1:Int) (v2:Int):Option (LS (Int) (LX (Unit) (Bool))) :=
 if v2 < v1 then
  ib v2 v0 >>= fun y2 =>
  if y2 = true then
   zcah v0 v2 false v0 >>= fun y5 =>
   ixL y5 v2 >>= fun y7 =>
   if y7 = true then
    some (.dn (.rt false))
   else
   some (.nx (IntKind.i64.wrap (v2 + (1:Int))))
  else
  some (.nx (IntKind.i64.wrap (v2 + (1:Int))))
 else
 some (.dn (.ex ()))
def eq (v0:af) (v1:Int) (v2:Int):Option (LX (Unit) (Bool)):=oq (fun st => dw v0 v1 st) v2
theorem vq (v0:af) (v1:Int) (v2:Int):eq v0 v1 v2 = dw v0 v1 v2 >>= LS.go (fun st => eq v0 v1 st):=ew (fun st => dw v0 v1 st) v2
def nr (v0:af) (v1:Int) (v2:Int) (r:LX (Unit) (Bool)):Prop:=∀ (τ:TH) (o0:Nat) (hl:τ.lock ≤ τ.next) (ha0:τ.at o0 = some ⟨bh,v0.cells⟩) (hi0:o0 < τ.next) (Q:TEx → ap) (hQ0:∀ v:Unit,r = (.ex v) → ∀ (fr:TF) (tk2:TK) (τ2:TH),tk2.take 0 = [] → τ2.cut τ.next = τ → Q (.exit 0) fr tk2 τ2) (hQ1:∀ v:Bool,r = (.rt v) → ∀ (tk2:TK) (τ2:TH),τ2.cut τ.next = τ → Q .ret [(2,.bool v)] tk2 τ2) ,tW G (.loop [1,3,11,12] n5) Q [(1,.ptr o0 0),(3,.func gn [] [.ptr o0 0]),(11,.int .i64 v1),(12,.int .i64 v2)] [] τ
theorem zdgo (v0:af) (v1:Int) (v2:Int) (r:LX (Unit) (Bool)) (h:eq v0 v1 v2 = some r):nr v0 v1 v2 r:=by
 refine di (f:=fun st => dw v0 v1 st) (P:=fun st r => ∀ (v2:Int),v2 = st → nr v0 v1 v2 r) ?_ h v2 rfl
 clear h r v2
 intro st o h r ih v2 hst τ o0  hl ha0 hi0 Q hQ0 hQ1
 subst hst
 have h:dw v0 v1 v2 = some o:=h
 unfold dw at h
 refine mo fun LQ hn hr he => ?_
 by_cases c1:v2 < v1
 · rw [if_pos c1] at h
   obtain ⟨y2,hy2,h⟩:=ob h
   have k3:=zc5m v2 v0 _ hy2
   try simp only [CL] at k3
   by_cases c4:y2 = true
   · rw [if_pos c4] at h
     obtain ⟨y5,hy5,h⟩:=ob h
     have k6:=zdkj v0 v2 false v0 _ hy5
     try simp only [CL] at k6
     obtain ⟨y7,hy7,h⟩:=ob h
     have f8:=av hy7
     have f8a:=(f8.2.2 TV.bool).1
     have f8b:=(f8.2.2 TV.bool).2
     try simp only [CL,MC,reduceToNat] at f8 f8a f8b
     by_cases c9:y7 = true
     · rw [if_pos c9] at h
       injection h with h; subst h
       obtain rfl:_ = r:=ih
       simp only [n5,mh,TT,Ic.t,ci,reduceEqDiff,reduceAdd,reduceCtorEq,hl,ha0,hi0,he,hr,c1,k3,c4,k6,f8.1,f8.2.1,f8a,c9,CL]
       exact hQ1 false rfl  _ _  (by simp only [TT])
     rw [if_neg c9] at h
     have c9:=Bool.eq_false_iff.2 c9
     injection h with h; subst h
     have ih:=ih (IntKind.i64.wrap (v2 + (1:Int))) rfl
     unfold nr at ih
     simp only [n5,mh,TT,Ic.t,ci,reduceEqDiff,reduceAdd,reduceCtorEq,hl,ha0,hi0,c1,k3,c4,k6,f8.1,f8.2.1,f8a,c9,CL]
     rw [hn]
     simp only [TT,reduceEqDiff,hi0]
     exact ih  τ o0   (by assumption) (by simp only [ha0,CL]) (by assumption) Q hQ0 hQ1
   rw [if_neg c4] at h
   have c4:=Bool.eq_false_iff.2 c4
   injection h with h; subst h
   have ih:=ih (IntKind.i64.wrap (v2 + (1:Int))) rfl
   unfold nr at ih
   simp only [n5,mh,TT,Ic.t,ci,reduceEqDiff,reduceCtorEq,hl,ha0,hi0,c1,k3,c4,CL]
   rw [hn]
   simp only [TT,reduceEqDiff,hi0]
   exact ih  τ o0   (by assumption) (by simp only [ha0,CL]) (by assumption) Q hQ0 hQ1
 rw [if_neg c1] at h
 injection h with h; subst h
 obtain rfl:_ = r:=ih
 simp only [n5,mh,TT,Ic.t,ci,reduceEqDiff,reduceCtorEq,he,c1]
 exact hQ0 () rfl  _ _ _   (by rfl) (by simp only [TT])
def rc (p1:af):Option Bool :=
 rn p1 >>= fun y1 =>
 if y1 = true then
  eq p1 ((p1.Parties.length:Nat):Int) (0:Int) >>= fun y4 =>
  match y4 with
  | .ex w5 =>
   some true
  | .rt w7 =>
   some w7
 else
 some false
theorem zc33 (p1:af) (r:Bool) (h:rc p1 = some r) (τ:TH) (hl:τ.lock ≤ τ.next):Ru G rk [.agg p1.cells] τ (.bool r) τ:=by
 refine gp fun K hK => ?_
 rw [bc zdj8 (Nat.le_of_ble_eq_true rfl)]
 unfold rc at h
 obtain ⟨y1,hy1,h⟩:=ob h
 have k2:=zcfr p1 _ hy1
 try simp only [CL] at k2
 by_cases c3:y1 = true
 · rw [if_pos c3] at h
   obtain ⟨y4,hy4,h⟩:=ob h
   simp only [mh,TT,Ic.t,ci,reduceEqDiff,reduceAdd,reduceCtorEq,hl,k2,c3,CL]
   have Sy4:=zdgo p1 ((p1.Parties.length:Nat):Int) (0:Int) y4 hy4
   unfold nr at Sy4
   refine Sy4 _ τ.next (by simp only [ak,aq]; omega) (by simp only [TT,CL]) (by simp only [ak]; omega) _ ?_ ?_
   · intro w5 e frq6 tkq6 τq6 htq6 hcq6
     subst e
     simp only at h
     have hcq6:=dp (n:=τ.next + 1) hcq6 (by simp only [ak]; omega)
     try simp only [List.take_zero] at htq6
     try simp only [TT] at hcq6
     injection h with h; subst h
     simp only [TT,hcq6]
     first | exact hK | (simp only [hl,k2,c3,htq6,hcq6,CL] at hK; exact hK)
   intro w7 e tkq8 τq8 hcq8
   subst e
   simp only at h
   have hcq8:=dp (n:=τ.next) hcq8 (by simp only [ak]; omega)
   try simp only [TT] at hcq8
   injection h with h; subst h
   simp only [TT,hcq8]
   first | exact hK | (simp only [hl,k2,c3,hcq8,CL] at hK; exact hK)
 rw [if_neg c3] at h
 have c3:=Bool.eq_false_iff.2 c3
 injection h with h; subst h
 simp only [mh,TT,Ic.t,ci,reduceEqDiff,reduceAdd,reduceCtorEq,hl,k2,c3,CL]
 first | exact hK | (simp only [hl,k2,c3,CL] at hK; exact hK)
theorem zdle (p1:af) (r:Bool) (h:rc p1 = some r) (lk:Bool) (d:Option Nat) (K:ap) (fr:TF) (tk:TK) (τ:TH) (hl:τ.lock ≤ τ.next):du G lk rk [.agg p1.cells] d K fr tk τ = K (fp fr d (.bool r)) tk τ :=
 au (zc33 p1 r h τ  hl) (zc33 p1 r h (τ.locked τ.next)  (Nat.le_refl _) ) (by simp only [TT,CL])
def yl (p1:af):Option Bool :=
 vl p1 >>= fun y1 =>
 if y1 = true then
  rc p1 >>= fun y4 =>
  some y4
 else
 some false
theorem zc04 (p1:af) (r:Bool) (h:yl p1 = some r) (τ:TH) (hl:τ.lock ≤ τ.next):Ru G yq [.agg p1.cells] τ (.bool r) τ:=by
 refine gp fun K hK => ?_
 rw [bc zde6 (Nat.le_of_ble_eq_true rfl)]
 unfold yl at h
 obtain ⟨y1,hy1,h⟩:=ob h
 have k2:=zdkh p1 _ hy1
 try simp only [CL] at k2
 by_cases c3:y1 = true
 · rw [if_pos c3] at h
   obtain ⟨y4,hy4,h⟩:=ob h
   have k5:=zdle p1 _ hy4
   try simp only [CL] at k5
   injection h with h; subst h
   simp only [zda6,TT,Ic.t,reduceEqDiff,reduceAdd,reduceCtorEq,hl,k2,c3,k5,CL]
   first | exact hK | (simp only [hl,k2,c3,k5,CL] at hK; exact hK)
 rw [if_neg c3] at h
 have c3:=Bool.eq_false_iff.2 c3
 injection h with h; subst h
 simp only [zda6,TT,Ic.t,reduceEqDiff,reduceAdd,reduceCtorEq,hl,k2,c3,CL]
 first | exact hK | (simp only [hl,k2,c3,CL] at hK; exact hK)
theorem zdjt (p1:af) (r:Bool) (h:yl p1 = some r) (lk:Bool) (d:Option Nat) (K:ap) (fr:TF) (tk:TK) (τ:TH) (hl:τ.lock ≤ τ.next):du G lk yq [.agg p1.cells] d K fr tk τ = K (fp fr d (.bool r)) tk τ :=
 au (zc04 p1 r h τ  hl) (zc04 p1 r h (τ.locked τ.next)  (Nat.le_refl _) ) (by simp only [TT,CL])
def vm (p1:ac) (p2:(List Int)) (p3:Int) (p4:Int):Option Bool :=
 ixL p2 (IntKind.i64.wrap (p3 - (1:Int))) >>= fun y1 =>
 if p1.From = y1 then
  some (decide (p1.To = p4))
 else
 some false
theorem zc1k (p1:ac) (p2:(List Int)) (p3:Int) (p4:Int) (r:Bool) (h:vm p1 p2 p3 p4 = some r) (τ:TH) (o0:Nat) (o1:Nat) (o2:Nat) (hl:τ.lock ≤ τ.next) (ha0:τ.at o0 = some ⟨zbxz,[.sl (List.map (TV.int .i64) p2)]⟩) (hi0:o0 < τ.next) (ha1:τ.at o1 = some ⟨jy,[.int .i64 p3]⟩) (hi1:o1 < τ.next) (ha2:τ.at o2 = some ⟨jy,[.int .i64 p4]⟩) (hi2:o2 < τ.next):Ru G j9 [.agg p1.cells,.ptr o0 0,.ptr o1 0,.ptr o2 0] τ (.bool r) τ:=by
 refine gp fun K hK => ?_
 rw [bc zdf5 (Nat.le_of_ble_eq_true rfl)]
 unfold vm at h
 obtain ⟨y1,hy1,h⟩:=ob h
 have f2:=av hy1
 have f2a:=(f2.2.2 (TV.int .i64)).1
 have f2b:=(f2.2.2 (TV.int .i64)).2
 try simp only [CL,MC,reduceToNat] at f2 f2a f2b
 by_cases c3:p1.From = y1
 · rw [if_pos c3] at h
   injection h with h; subst h
   simp only [zcxl,TT,Ic.t,ci,reduceEqDiff,reduceAdd,reduceCtorEq,ha0,hi0,ha1,hi1,ha2,hi2,f2.1,f2.2.1,f2a,eq_true c3,CL]
   exact hK
 rw [if_neg c3] at h
 injection h with h; subst h
 simp only [zcxl,TT,Ic.t,ci,reduceEqDiff,reduceAdd,reduceCtorEq,ha0,hi0,ha1,hi1,f2.1,f2.2.1,f2a,c3,CL]
 exact hK
theorem zdkg (p1:ac) (p2:(List Int)) (p3:Int) (p4:Int) (r:Bool) (h:vm p1 p2 p3 p4 = some r) (lk:Bool) (d:Option Nat) (K:ap) (fr:TF) (tk:TK) (τ:TH) (o0:Nat) (o1:Nat) (o2:Nat) (hl:τ.lock ≤ τ.next) (ha0:τ.at o0 = some ⟨zbxz,[.sl (List.map (TV.int .i64) p2)]⟩) (hi0:o0 < τ.next) (ha1:τ.at o1 = some ⟨jy,[.int .i64 p3]⟩) (hi1:o1 < τ.next) (ha2:τ.at o2 = some ⟨jy,[.int .i64 p4]⟩) (hi2:o2 < τ.next):du G lk j9 [.agg p1.cells,.ptr o0 0,.ptr o1 0,.ptr o2 0] d K fr tk τ = K (fp fr d (.bool r)) tk τ :=
 au (zc1k p1 p2 p3 p4 r h τ o0 o1 o2 hl ha0 hi0 ha1 hi1 ha2 hi2) (zc1k p1 p2 p3 p4 r h (τ.locked τ.next) o0 o1 o2 (Nat.le_refl _) (by rw [ww]; exact ha0) hi0 (by rw [ww]; exact ha1) hi1 (by rw [ww]; exact ha2) hi2) (by simp only [TT,hi0,hi1,hi2,CL])
def az (v0:(List ac)) (v1:(List Int)) (v2:Int) (v3:Int) (v4:Int) (v5:Int):Option (LS (Int) (LX (Unit) (Int))) :=
 if v5 < v4 then
  ixL v0 v5 >>= fun y2 =>
  vm (⟨y2.From,y2.To,y2.Ledger,y2.Asset,y2.Amount⟩:ac) v1 v2 v3 >>= fun y4 =>
  if y4 = true then
   some (.dn (.rt v5))
  else
  some (.nx (IntKind.i64.wrap (v5 + (1:Int))))
 else
 some (.dn (.ex ()))
def cw (v0:(List ac)) (v1:(List Int)) (v2:Int) (v3:Int) (v4:Int) (v5:Int):Option (LX (Unit) (Int)):=oq (fun st => az v0 v1 v2 v3 v4 st) v5
theorem mw (v0:(List ac)) (v1:(List Int)) (v2:Int) (v3:Int) (v4:Int) (v5:Int):cw v0 v1 v2 v3 v4 v5 = az v0 v1 v2 v3 v4 v5 >>= LS.go (fun st => cw v0 v1 v2 v3 v4 st):=ew (fun st => az v0 v1 v2 v3 v4 st) v5
def fj (v0:(List ac)) (v1:(List Int)) (v2:Int) (v3:Int) (v4:Int) (v5:Int) (r:LX (Unit) (Int)):Prop:=∀ (τ:TH) (o0:Nat) (o1:Nat) (o2:Nat) (hl:τ.lock ≤ τ.next) (ha0:τ.at o0 = some ⟨zbxz,[.sl (List.map (TV.int .i64) v1)]⟩) (hi0:o0 < τ.next) (ha1:τ.at o1 = some ⟨jy,[.int .i64 v2]⟩) (hi1:o1 < τ.next) (ha2:τ.at o2 = some ⟨jy,[.int .i64 v3]⟩) (hi2:o2 < τ.next) (Q:TEx → ap) (hQ0:∀ v:Unit,r = (.ex v) → ∀ (fr:TF) (tk2:TK) (τ2:TH),tk2.take 0 = [] → τ2.cut τ.next = τ → Q (.exit 0) fr tk2 τ2) (hQ1:∀ v:Int,r = (.rt v) → ∀ (tk2:TK) (τ2:TH),τ2.cut τ.next = τ → Q .ret [(4,.int .i64 v)] tk2 τ2) ,tW G (.loop [0,1,7,8] ee) Q [(0,.sl (List.map ac.tv v0)),(1,.func j9 [] [.ptr o0 0,.ptr o1 0,.ptr o2 0]),(7,.int .i64 v4),(8,.int .i64 v5)] [] τ
theorem xa (v0:(List ac)) (v1:(List Int)) (v2:Int) (v3:Int) (v4:Int) (v5:Int) (r:LX (Unit) (Int)) (h:cw v0 v1 v2 v3 v4 v5 = some r):fj v0 v1 v2 v3 v4 v5 r:=by
 refine di (f:=fun st => az v0 v1 v2 v3 v4 st) (P:=fun st r => ∀ (v5:Int),v5 = st → fj v0 v1 v2 v3 v4 v5 r) ?_ h v5 rfl
 clear h r v5
 intro st o h r ih v5 hst τ o0 o1 o2  hl ha0 hi0 ha1 hi1 ha2 hi2 Q hQ0 hQ1
 subst hst
 have h:az v0 v1 v2 v3 v4 v5 = some o:=h
 unfold az at h
 refine mo fun LQ hn hr he => ?_
 by_cases c1:v5 < v4
 · rw [if_pos c1] at h
   obtain ⟨y2,hy2,h⟩:=ob h
   have f3:=av hy2
   have f3a:=(f3.2.2 ac.tv).1
   have f3b:=(f3.2.2 ac.tv).2
   try simp only [CL] at f3 f3a f3b
   obtain ⟨y4,hy4,h⟩:=ob h
   have k5:=zdkg (⟨y2.From,y2.To,y2.Ledger,y2.Asset,y2.Amount⟩:ac) v1 v2 v3 _ hy4
   try simp only [CL] at k5
   by_cases c6:y4 = true
   · rw [if_pos c6] at h
     injection h with h; subst h
     obtain rfl:_ = r:=ih
     simp only [ee,dk,TT,Ic.t,ci,reduceEqDiff,reduceAdd,reduceCtorEq,hl,ha0,hi0,ha1,hi1,ha2,hi2,he,hr,c1,f3.1,f3.2.1,f3a,k5,c6]
     exact hQ1 v5 rfl  _ _  (by simp only [TT])
   rw [if_neg c6] at h
   have c6:=Bool.eq_false_iff.2 c6
   injection h with h; subst h
   have ih:=ih (IntKind.i64.wrap (v5 + (1:Int))) rfl
   unfold fj at ih
   simp only [ee,dk,TT,Ic.t,ci,reduceEqDiff,reduceAdd,reduceCtorEq,hl,ha0,hi0,ha1,hi1,ha2,hi2,c1,f3.1,f3.2.1,f3a,k5,c6]
   rw [hn]
   simp only [TT,reduceEqDiff,reduceCtorEq,hi0,hi1,hi2]
   exact ih  τ o0 o1 o2   (by assumption) (by simp only [ha0]) (by assumption) (by simp only [ha1]) (by assumption) (by simp only [ha2]) (by assumption) Q hQ0 hQ1
 rw [if_neg c1] at h
 injection h with h; subst h
 obtain rfl:_ = r:=ih
 simp only [ee,dk,TT,Ic.t,ci,reduceEqDiff,reduceCtorEq,he,c1]
 exact hQ0 () rfl  _ _ _   (by rfl) (by simp only [TT])
def ff (p1:(List ac)) (p2:(List Int)) (p3:Int) (p4:Int):Option Int :=
 cw p1 p2 p3 p4 ((p1.length:Nat):Int) (0:Int) >>= fun y1 =>
 match y1 with
 | .ex w2 =>
  some (-1:Int)
 | .rt w4 =>
  some w4
theorem ox (p1:(List ac)) (p2:(List Int)) (p3:Int) (p4:Int) (r:Int) (h:ff p1 p2 p3 p4 = some r) (τ:TH) (o0:Nat) (o1:Nat) (o2:Nat) (hl:τ.lock ≤ τ.next) (ha0:τ.at o0 = some ⟨zbxz,[.sl (List.map (TV.int .i64) p2)]⟩) (hi0:o0 < τ.next) (ha1:τ.at o1 = some ⟨jy,[.int .i64 p3]⟩) (hi1:o1 < τ.next) (ha2:τ.at o2 = some ⟨jy,[.int .i64 p4]⟩) (hi2:o2 < τ.next):Ru G dl [.sl (List.map ac.tv p1),.func j9 [] [.ptr o0 0,.ptr o1 0,.ptr o2 0]] τ (.int .i64 r) τ:=by
 refine gp fun K hK => ?_
 rw [bc zdih (Nat.le_of_ble_eq_true rfl)]
 unfold ff at h
 obtain ⟨y1,hy1,h⟩:=ob h
 simp only [dk,TT,Ic.t,ci,reduceEqDiff,reduceAdd,reduceCtorEq]
 have Sy1:=xa p1 p2 p3 p4 ((p1.length:Nat):Int) (0:Int) y1 hy1
 unfold fj at Sy1
 refine Sy1 _ o0 o1 o2 (by assumption) (by simp only [ha0]) (by assumption) (by simp only [ha1]) (by assumption) (by simp only [ha2]) (by assumption) _ ?_ ?_
 · intro w2 e frq3 tkq3 τq3 htq3 hcq3
   subst e
   simp only at h
   have hcq3:=dp (n:=τ.next) hcq3 (by omega)
   try simp only [List.take_zero] at htq3
   try simp only [TT] at hcq3
   injection h with h; subst h
   simp only [TT,hcq3]
   exact hK
 intro w4 e tkq5 τq5 hcq5
 subst e
 simp only at h
 have hcq5:=dp (n:=τ.next) hcq5 (by omega)
 try simp only [TT] at hcq5
 injection h with h; subst h
 simp only [TT,hcq5]
 exact hK
theorem z8 (p1:(List ac)) (p2:(List Int)) (p3:Int) (p4:Int) (r:Int) (h:ff p1 p2 p3 p4 = some r) (lk:Bool) (d:Option Nat) (K:ap) (fr:TF) (tk:TK) (τ:TH) (o0:Nat) (o1:Nat) (o2:Nat) (hl:τ.lock ≤ τ.next) (ha0:τ.at o0 = some ⟨zbxz,[.sl (List.map (TV.int .i64) p2)]⟩) (hi0:o0 < τ.next) (ha1:τ.at o1 = some ⟨jy,[.int .i64 p3]⟩) (hi1:o1 < τ.next) (ha2:τ.at o2 = some ⟨jy,[.int .i64 p4]⟩) (hi2:o2 < τ.next):du G lk dl [.sl (List.map ac.tv p1),.func j9 [] [.ptr o0 0,.ptr o1 0,.ptr o2 0]] d K fr tk τ = K (fp fr d (.int .i64 r)) tk τ :=
 au (ox p1 p2 p3 p4 r h τ o0 o1 o2 hl ha0 hi0 ha1 hi1 ha2 hi2) (ox p1 p2 p3 p4 r h (τ.locked τ.next) o0 o1 o2 (Nat.le_refl _) (by rw [ww]; exact ha0) hi0 (by rw [ww]; exact ha1) hi1 (by rw [ww]; exact ha2) hi2) (by simp only [TT,hi0,hi1,hi2])
def cy (p1:(List ac)) (p2:(List Int)) (p3:Int) (p4:Int):Option Bool :=
 ff p1 p2 p3 p4 >>= fun y1 =>
 some (decide ((0:Int) ≤ y1))
theorem nh (p1:(List ac)) (p2:(List Int)) (p3:Int) (p4:Int) (r:Bool) (h:cy p1 p2 p3 p4 = some r) (τ:TH) (o0:Nat) (o1:Nat) (o2:Nat) (hl:τ.lock ≤ τ.next) (ha0:τ.at o0 = some ⟨zbxz,[.sl (List.map (TV.int .i64) p2)]⟩) (hi0:o0 < τ.next) (ha1:τ.at o1 = some ⟨jy,[.int .i64 p3]⟩) (hi1:o1 < τ.next) (ha2:τ.at o2 = some ⟨jy,[.int .i64 p4]⟩) (hi2:o2 < τ.next):Ru G cz [.sl (List.map ac.tv p1),.func j9 [] [.ptr o0 0,.ptr o1 0,.ptr o2 0]] τ (.bool r) τ:=by
 refine gp fun K hK => ?_
 rw [bc zy (Nat.le_of_ble_eq_true rfl)]
 unfold cy at h
 obtain ⟨y1,hy1,h⟩:=ob h
 have k2:=z8 p1 p2 p3 p4 _ hy1
 try simp only [CL,MC,reduceToNat] at k2
 injection h with h; subst h
 simp only [z4,TT,Ic.t,ci,reduceEqDiff,reduceAdd,reduceCtorEq,hl,ha0,hi0,ha1,hi1,ha2,hi2,k2]
 exact hK
theorem xd (p1:(List ac)) (p2:(List Int)) (p3:Int) (p4:Int) (r:Bool) (h:cy p1 p2 p3 p4 = some r) (lk:Bool) (d:Option Nat) (K:ap) (fr:TF) (tk:TK) (τ:TH) (o0:Nat) (o1:Nat) (o2:Nat) (hl:τ.lock ≤ τ.next) (ha0:τ.at o0 = some ⟨zbxz,[.sl (List.map (TV.int .i64) p2)]⟩) (hi0:o0 < τ.next) (ha1:τ.at o1 = some ⟨jy,[.int .i64 p3]⟩) (hi1:o1 < τ.next) (ha2:τ.at o2 = some ⟨jy,[.int .i64 p4]⟩) (hi2:o2 < τ.next):du G lk cz [.sl (List.map ac.tv p1),.func j9 [] [.ptr o0 0,.ptr o1 0,.ptr o2 0]] d K fr tk τ = K (fp fr d (.bool r)) tk τ :=
 au (nh p1 p2 p3 p4 r h τ o0 o1 o2 hl ha0 hi0 ha1 hi1 ha2 hi2) (nh p1 p2 p3 p4 r h (τ.locked τ.next) o0 o1 o2 (Nat.le_refl _) (by rw [ww]; exact ha0) hi0 (by rw [ww]; exact ha1) hi1 (by rw [ww]; exact ha2) hi2) (by simp only [TT,hi0,hi1,hi2])
def gf (v0:af) (v1:(List Int)) (v2:(List Int)) (v3:Int) (v4:Int):Option (LS (Int) (LX (Unit) (Bool))) :=
 if v4 < v3 then
  ixL v2 v4 >>= fun y2 =>
  if y2 < (0:Int) then
   some (.dn (.rt false))
  else
  if ((v0.Parties.length:Nat):Int) ≤ y2 then
   some (.dn (.rt false))
  else
  if ¬ v1 = [] then
   if 0 ≤ v4 ∧ v4 ≤ (v1.length:Int) then
    fq (v1.take v4.toNat) y2 >>= fun y11 =>
    if y11 = true then
     some (.dn (.rt false))
    else
    if (0:Int) < v4 then
     cy v0.Arcs v1 v4 y2 >>= fun y15 =>
     if y15 = true then
      some (.nx (IntKind.i64.wrap (v4 + (1:Int))))
     else
     some (.dn (.rt false))
    else
    some (.nx (IntKind.i64.wrap (v4 + (1:Int))))
   else
    none
  else
   none
 else
 some (.dn (.ex ()))
def iu (v0:af) (v1:(List Int)) (v2:(List Int)) (v3:Int) (v4:Int):Option (LX (Unit) (Bool)):=oq (fun st => gf v0 v1 v2 v3 st) v4
theorem zclq (v0:af) (v1:(List Int)) (v2:(List Int)) (v3:Int) (v4:Int):iu v0 v1 v2 v3 v4 = gf v0 v1 v2 v3 v4 >>= LS.go (fun st => iu v0 v1 v2 v3 st):=ew (fun st => gf v0 v1 v2 v3 st) v4
def ua (v0:af) (v1:(List Int)) (v2:(List Int)) (v3:Int) (v4:Int) (r:LX (Unit) (Bool)):Prop:=∀ (τ:TH) (o0:Nat) (o1:Nat) (hl:τ.lock ≤ τ.next) (ha0:τ.at o0 = some ⟨bh,v0.cells⟩) (hi0:o0 < τ.next) (ha1:τ.at o1 = some ⟨zbxz,[.sl (List.map (TV.int .i64) v1)]⟩) (hi1:o1 < τ.next) (Q:TEx → ap) (hQ0:∀ v:Unit,r = (.ex v) → ∀ (fr:TF) (tk2:TK) (τ2:TH),tk2.take 0 = [] → τ2.cut τ.next = τ → Q (.exit 0) fr tk2 τ2) (hQ1:∀ v:Bool,r = (.rt v) → ∀ (tk2:TK) (τ2:TH),τ2.cut τ.next = τ → Q .ret [(4,.bool v)] tk2 τ2) ,tW G (.loop [2,3,15,16,17] m5) Q [(2,.ptr o0 0),(3,.ptr o1 0),(15,.sl (List.map (TV.int .i64) v2)),(16,.int .i64 v3),(17,.int .i64 v4)] [] τ
theorem zdk4 (v0:af) (v1:(List Int)) (v2:(List Int)) (v3:Int) (v4:Int) (r:LX (Unit) (Bool)) (h:iu v0 v1 v2 v3 v4 = some r):ua v0 v1 v2 v3 v4 r:=by
 refine di (f:=fun st => gf v0 v1 v2 v3 st) (P:=fun st r => ∀ (v4:Int),v4 = st → ua v0 v1 v2 v3 v4 r) ?_ h v4 rfl
 clear h r v4
 intro st o h r ih v4 hst τ o0 o1  hl ha0 hi0 ha1 hi1 Q hQ0 hQ1
 subst hst
 have h:gf v0 v1 v2 v3 v4 = some o:=h
 unfold gf at h
 refine mo fun LQ hn hr he => ?_
 by_cases c1:v4 < v3
 · rw [if_pos c1] at h
   obtain ⟨y2,hy2,h⟩:=ob h
   have f3:=av hy2
   have f3a:=(f3.2.2 (TV.int .i64)).1
   have f3b:=(f3.2.2 (TV.int .i64)).2
   try simp only [CL,MC,reduceToNat] at f3 f3a f3b
   by_cases c4:y2 < (0:Int)
   · rw [if_pos c4] at h
     injection h with h; subst h
     obtain rfl:_ = r:=ih
     simp only [m5,mg,TT,Ic.t,ci,reduceEqDiff,reduceAdd,reduceLT,reduceCtorEq,hl,he,hr,c1,f3.1,f3.2.1,f3a,c4]
     exact hQ1 false rfl  _ _  (by simp only [TT])
   rw [if_neg c4] at h
   by_cases c5:((v0.Parties.length:Nat):Int) ≤ y2
   · rw [if_pos c5] at h
     injection h with h; subst h
     obtain rfl:_ = r:=ih
     simp only [m5,mg,TT,Ic.t,ci,reduceEqDiff,reduceAdd,reduceLT,reduceCtorEq,hl,ha0,hi0,he,hr,c1,f3.1,f3.2.1,f3a,c4,c5,CL]
     exact hQ1 false rfl  _ _  (by simp only [TT])
   rw [if_neg c5] at h
   obtain ⟨c6,h⟩:=ifS h
   obtain ⟨c7,h⟩:=ifS h
   have f8:((List.map (TV.int .i64) v1).all fun e => e.cells.length == 1) = true:=zbwj (fun _ => rfl) _
   have f9:(!(List.map (TV.int .i64) v1).isEmpty) = true:=zdlk c6
   have f10:(List.map (TV.int .i64) v1).take v4.toNat = List.map (TV.int .i64) (v1.take v4.toNat):=List.map_take.symm
   obtain ⟨y11,hy11,h⟩:=ob h
   have k12:=xc (v1.take v4.toNat) y2 _ hy11
   try simp only [CL,MC,reduceToNat] at k12
   by_cases c13:y11 = true
   · rw [if_pos c13] at h
     injection h with h; subst h
     obtain rfl:_ = r:=ih
     simp only [m5,mg,TT,Ic.t,ci,reduceEqDiff,reduceAdd,reduceLT,reduceCtorEq,hl,ha0,hi0,ha1,hi1,he,hr,c1,f3.1,f3.2.1,f3a,c4,c5,c7,f8,f9,f10,k12,c13,CL]
     exact hQ1 false rfl  _ _  (by simp only [TT])
   rw [if_neg c13] at h
   have c13:=Bool.eq_false_iff.2 c13
   by_cases c14:(0:Int) < v4
   · rw [if_pos c14] at h
     obtain ⟨y15,hy15,h⟩:=ob h
     have k16:=xd v0.Arcs v1 v4 y2 _ hy15
     try simp only [CL,MC,reduceToNat] at k16
     by_cases c17:y15 = true
     · rw [if_pos c17] at h
       injection h with h; subst h
       have ih:=ih (IntKind.i64.wrap (v4 + (1:Int))) rfl
       unfold ua at ih
       simp only [m5,mg,TT,Ic.t,ci,reduceEqDiff,reduceAdd,reduceLT,reduceCtorEq,hl,ha0,hi0,ha1,hi1,c1,f3.1,f3.2.1,f3a,c4,c5,c7,f8,f9,f10,k12,c13,c14,k16,c17,CL]
       rw [hn]
       simp only [TT,reduceEqDiff,hi0,hi1]
       exact ih  τ o0 o1   (by assumption) (by simp only [ha0,CL]) (by assumption) (by simp only [ha1]) (by assumption) Q hQ0 hQ1
     rw [if_neg c17] at h
     have c17:=Bool.eq_false_iff.2 c17
     injection h with h; subst h
     obtain rfl:_ = r:=ih
     simp only [m5,mg,TT,Ic.t,ci,reduceEqDiff,reduceAdd,reduceLT,reduceCtorEq,hl,ha0,hi0,ha1,hi1,he,hr,c1,f3.1,f3.2.1,f3a,c4,c5,c7,f8,f9,f10,k12,c13,c14,k16,c17,CL]
     exact hQ1 false rfl  _ _  (by simp only [TT])
   rw [if_neg c14] at h
   injection h with h; subst h
   have ih:=ih (IntKind.i64.wrap (v4 + (1:Int))) rfl
   unfold ua at ih
   simp only [m5,mg,TT,Ic.t,ci,reduceEqDiff,reduceAdd,reduceLT,reduceCtorEq,hl,ha0,hi0,ha1,hi1,c1,f3.1,f3.2.1,f3a,c4,c5,c7,f8,f9,f10,k12,c13,c14,CL]
   rw [hn]
   simp only [TT,reduceEqDiff,hi0,hi1]
   exact ih  τ o0 o1   (by assumption) (by simp only [ha0,CL]) (by assumption) (by simp only [ha1]) (by assumption) Q hQ0 hQ1
 rw [if_neg c1] at h
 injection h with h; subst h
 obtain rfl:_ = r:=ih
 simp only [m5,mg,TT,Ic.t,ci,reduceEqDiff,reduceCtorEq,he,c1]
 exact hQ0 () rfl  _ _ _   (by rfl) (by simp only [TT])
def ui (p1:af) (p2:(List Int)):Option Bool :=
 rn p1 >>= fun y1 =>
 if y1 = true then
  if ((p2.length:Nat):Int) = (0:Int) then
   some false
  else
  iu p1 p2 p2 ((p2.length:Nat):Int) (0:Int) >>= fun y5 =>
  match y5 with
  | .ex w6 =>
   some true
  | .rt w8 =>
   some w8
 else
 some false
theorem zcyh (p1:af) (p2:(List Int)) (r:Bool) (h:ui p1 p2 = some r) (τ:TH) (hl:τ.lock ≤ τ.next):Ru G zb8g [.agg p1.cells,.sl (List.map (TV.int .i64) p2)] τ (.bool r) τ:=by
 refine gp fun K hK => ?_
 rw [bc zdea (Nat.le_of_ble_eq_true rfl)]
 unfold ui at h
 obtain ⟨y1,hy1,h⟩:=ob h
 have k2:=zcfr p1 _ hy1
 try simp only [CL] at k2
 by_cases c3:y1 = true
 · rw [if_pos c3] at h
   by_cases c4:((p2.length:Nat):Int) = (0:Int)
   · rw [if_pos c4] at h
     injection h with h; subst h
     simp only [mg,TT,Ic.t,ci,reduceEqDiff,reduceAdd,reduceLT,reduceCtorEq,hl,k2,c3,eq_true c4,CL]
     first | exact hK | (simp only [hl,k2,c3,eq_true c4,CL] at hK; exact hK)
   rw [if_neg c4] at h
   obtain ⟨y5,hy5,h⟩:=ob h
   simp only [mg,TT,Ic.t,ci,reduceEqDiff,reduceAdd,reduceLT,reduceCtorEq,hl,k2,c3,c4,CL]
   have Sy5:=zdk4 p1 p2 p2 ((p2.length:Nat):Int) (0:Int) y5 hy5
   unfold ua at Sy5
   refine Sy5 _ τ.next (τ.next + 1) (by simp only [ak,aq]; omega) (by simp only [TT,reduceLT,CL]) (by simp only [ak]; omega) (by simp only [TT]) (by simp only [ak]; omega) _ ?_ ?_
   · intro w6 e frq7 tkq7 τq7 htq7 hcq7
     subst e
     simp only at h
     have hcq7:=dp (n:=τ.next + 2) hcq7 (by simp only [ak]; omega)
     try simp only [List.take_zero] at htq7
     try simp only [TT,reduceAdd] at hcq7
     injection h with h; subst h
     simp only [TT,reduceAdd,hcq7]
     first | exact hK | (simp only [hl,k2,c3,c4,htq7,hcq7,CL] at hK; exact hK)
   intro w8 e tkq9 τq9 hcq9
   subst e
   simp only at h
   have hcq9:=dp (n:=τ.next) hcq9 (by simp only [ak]; omega)
   try simp only [TT] at hcq9
   injection h with h; subst h
   simp only [TT,hcq9]
   first | exact hK | (simp only [hl,k2,c3,c4,hcq9,CL] at hK; exact hK)
 rw [if_neg c3] at h
 have c3:=Bool.eq_false_iff.2 c3
 injection h with h; subst h
 simp only [mg,TT,Ic.t,ci,reduceEqDiff,reduceAdd,reduceLT,reduceCtorEq,hl,k2,c3,CL]
 first | exact hK | (simp only [hl,k2,c3,CL] at hK; exact hK)
theorem zdi6 (p1:af) (p2:(List Int)) (r:Bool) (h:ui p1 p2 = some r) (lk:Bool) (d:Option Nat) (K:ap) (fr:TF) (tk:TK) (τ:TH) (hl:τ.lock ≤ τ.next):du G lk zb8g [.agg p1.cells,.sl (List.map (TV.int .i64) p2)] d K fr tk τ = K (fp fr d (.bool r)) tk τ :=
 au (zcyh p1 p2 r h τ  hl) (zcyh p1 p2 r h (τ.locked τ.next)  (Nat.le_refl _) ) (by simp only [TT,CL])
def vi (p1:Int) (p2:ByteArray) (p3:ByteArray):Option ByteArray :=
 if (0 ≤ (IntKind.i64.wrap ((IntKind.i64.wrap (p1 + (1:Int))) * (32:Int))) ∧ (IntKind.i64.wrap ((IntKind.i64.wrap (p1 + (1:Int))) * (32:Int))) ≤ (p2.size:Int)) ∧ 0 ≤ (IntKind.i64.wrap (p1 * (32:Int))) ∧ (IntKind.i64.wrap (p1 * (32:Int))) ≤ (IntKind.i64.wrap ((IntKind.i64.wrap (p1 + (1:Int))) * (32:Int))) then
  if 0 ≤ (16:Int) ∧ (16:Int) ≤ ((p2.extract ((IntKind.i64.wrap (p1 * (32:Int))).toNat) ((IntKind.i64.wrap ((IntKind.i64.wrap (p1 + (1:Int))) * (32:Int))).toNat)).size:Int) then
   um ((p2.extract ((IntKind.i64.wrap (p1 * (32:Int))).toNat) ((IntKind.i64.wrap ((IntKind.i64.wrap (p1 + (1:Int))) * (32:Int))).toNat)).extract 0 16) >>= fun y3 =>
   xh p1 p3 >>= fun y5 =>
   if y5 = (0:Int) then
    if ¬ (9223372036854775807 < ((y3.size + ((p2.extract ((IntKind.i64.wrap (p1 * (32:Int))).toNat) ((IntKind.i64.wrap ((IntKind.i64.wrap (p1 + (1:Int))) * (32:Int))).toNat)).extract 16 ((p2.extract ((IntKind.i64.wrap (p1 * (32:Int))).toNat) ((IntKind.i64.wrap ((IntKind.i64.wrap (p1 + (1:Int))) * (32:Int))).toNat)).size)).size:Nat):Int)) then
     some (y3 ++ ((p2.extract ((IntKind.i64.wrap (p1 * (32:Int))).toNat) ((IntKind.i64.wrap ((IntKind.i64.wrap (p1 + (1:Int))) * (32:Int))).toNat)).extract 16 ((p2.extract ((IntKind.i64.wrap (p1 * (32:Int))).toNat) ((IntKind.i64.wrap ((IntKind.i64.wrap (p1 + (1:Int))) * (32:Int))).toNat)).size)))
    else
     none
   else
   if ¬ (9223372036854775807 < ((((p2.extract ((IntKind.i64.wrap (p1 * (32:Int))).toNat) ((IntKind.i64.wrap ((IntKind.i64.wrap (p1 + (1:Int))) * (32:Int))).toNat)).extract 16 ((p2.extract ((IntKind.i64.wrap (p1 * (32:Int))).toNat) ((IntKind.i64.wrap ((IntKind.i64.wrap (p1 + (1:Int))) * (32:Int))).toNat)).size)).size + y3.size:Nat):Int)) then
    some (((p2.extract ((IntKind.i64.wrap (p1 * (32:Int))).toNat) ((IntKind.i64.wrap ((IntKind.i64.wrap (p1 + (1:Int))) * (32:Int))).toNat)).extract 16 ((p2.extract ((IntKind.i64.wrap (p1 * (32:Int))).toNat) ((IntKind.i64.wrap ((IntKind.i64.wrap (p1 + (1:Int))) * (32:Int))).toNat)).size)) ++ y3)
   else
    none
  else
   none
 else
  none
theorem zc2c (p1:Int) (p2:ByteArray) (p3:ByteArray) (r:ByteArray) (h:vi p1 p2 p3 = some r) (τ:TH) (o0:Nat) (o1:Nat) (o2:Nat) (hl:τ.lock ≤ τ.next) (ha0:τ.at o0 = some ⟨a9,[.str p2]⟩) (hi0:o0 < τ.next) (ha1:τ.at o1 = some ⟨jc,[.func fy [] [.ptr o2 0]]⟩) (hi1:o1 < τ.next) (ha2:τ.at o2 = some ⟨a9,[.str p3]⟩) (hi2:o2 < τ.next):Ru G m6 [.int .i64 p1,.ptr o0 0,.ptr o1 0] τ (.str r) τ:=by
 refine gp fun K hK => ?_
 rw [bc zdga (Nat.le_of_ble_eq_true rfl)]
 unfold vi at h
 obtain ⟨c1,h⟩:=ifS h
 obtain ⟨c2,h⟩:=ifS h
 obtain ⟨y3,hy3,h⟩:=ob h
 have k4:=zcfk ((p2.extract ((IntKind.i64.wrap (p1 * (32:Int))).toNat) ((IntKind.i64.wrap ((IntKind.i64.wrap (p1 + (1:Int))) * (32:Int))).toNat)).extract 0 16) _ hy3
 try simp only [CL,MC,reduceToNat] at k4
 obtain ⟨y5,hy5,h⟩:=ob h
 have k6:=zczp p1 p3 _ hy5
 try simp only [CL,MC,reduceToNat] at k6
 by_cases c7:y5 = (0:Int)
 · rw [if_pos c7] at h
   obtain ⟨c8,h⟩:=ifS h
   injection h with h; subst h
   simp only [zcxn,TT,Ic.t,ci,reduceEqDiff,reduceAdd,reduceCtorEq,reduceToNat,hl,ha0,ha1,ha2,hi2,c1,c2,k4,k6,eq_true c7,c8]
   exact hK
 rw [if_neg c7] at h
 obtain ⟨c9,h⟩:=ifS h
 injection h with h; subst h
 simp only [zcxn,TT,Ic.t,ci,reduceEqDiff,reduceAdd,reduceCtorEq,reduceToNat,hl,ha0,ha1,ha2,hi2,c1,c2,k4,k6,c7,c9]
 exact hK
theorem zdkm (p1:Int) (p2:ByteArray) (p3:ByteArray) (r:ByteArray) (h:vi p1 p2 p3 = some r) (lk:Bool) (d:Option Nat) (K:ap) (fr:TF) (tk:TK) (τ:TH) (o0:Nat) (o1:Nat) (o2:Nat) (hl:τ.lock ≤ τ.next) (ha0:τ.at o0 = some ⟨a9,[.str p2]⟩) (hi0:o0 < τ.next) (ha1:τ.at o1 = some ⟨jc,[.func fy [] [.ptr o2 0]]⟩) (hi1:o1 < τ.next) (ha2:τ.at o2 = some ⟨a9,[.str p3]⟩) (hi2:o2 < τ.next):du G lk m6 [.int .i64 p1,.ptr o0 0,.ptr o1 0] d K fr tk τ = K (fp fr d (.str r)) tk τ :=
 au (zc2c p1 p2 p3 r h τ o0 o1 o2 hl ha0 hi0 ha1 hi1 ha2 hi2) (zc2c p1 p2 p3 r h (τ.locked τ.next) o0 o1 o2 (Nat.le_refl _) (by rw [ww]; exact ha0) hi0 (by rw [ww]; exact ha1) hi1 (by rw [ww]; exact ha2) hi2) (by simp only [TT,hi0,hi1])
end
end Go.Proofs.Ytjgpklmkdkkooaa
