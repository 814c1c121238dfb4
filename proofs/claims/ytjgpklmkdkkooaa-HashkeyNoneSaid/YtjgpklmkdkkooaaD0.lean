import Derived.Test.YtjgpklmkdkkooaaM17
set_option linter.unusedVariables false
set_option linter.unusedSimpArgs false
set_option linter.unusedSectionVars false
open Nat (reduceEqDiff reduceAdd reduceMul reduceLT reduceLeDiff reduceSub)
open Int (reduceToNat reduceNe reduceEq reduceNeg reduceLE)
namespace Go.Proofs.Ytjgpklmkdkkooaa
open Go Go.RowKit Sh Ic
noncomputable section
def r9 (p1:Int):Option ByteArray :=
 zb8j p1 >>= fun y1 =>
 if ¬ (9223372036854775807 < (((⟨#[112,97,114,116,121]⟩:ByteArray).size + y1.size:Nat):Int)) then
  some ((⟨#[112,97,114,116,121]⟩:ByteArray) ++ y1)
 else
  none
theorem zc0d (p1:Int) (r:ByteArray) (h:r9 p1 = some r) (τ:TH) (hl:τ.lock ≤ τ.next):Ru G yr [.int .i64 p1] τ (.str r) τ:=by
 refine gp fun K hK => ?_
 rw [bc zde5 (Nat.le_of_ble_eq_true rfl)]
 unfold r9 at h
 obtain ⟨y1,hy1,h⟩:=ob h
 have k2:=zckk p1 _ hy1
 try simp only [CL,MC,reduceToNat] at k2
 obtain ⟨c3,h⟩:=ifS h
 injection h with h; subst h
 simp only [zde2,TT,Ic.t,reduceCtorEq,hl,k2,c3]
 exact hK
theorem zdix (p1:Int) (r:ByteArray) (h:r9 p1 = some r) (lk:Bool) (d:Option Nat) (K:ap) (fr:TF) (tk:TK) (τ:TH) (hl:τ.lock ≤ τ.next):du G lk yr [.int .i64 p1] d K fr tk τ = K (fp fr d (.str r)) tk τ :=
 au (zc0d p1 r h τ  hl) (zc0d p1 r h (τ.locked τ.next)  (Nat.le_refl _) ) (by simp only [TT])
def pj (p1:Int):Option ByteArray :=
 zb8j p1 >>= fun y1 =>
 if ¬ (9223372036854775807 < (((⟨#[115,101,99,114,101,116]⟩:ByteArray).size + y1.size:Nat):Int)) then
  some ((⟨#[115,101,99,114,101,116]⟩:ByteArray) ++ y1)
 else
  none
theorem zcxf (p1:Int) (r:ByteArray) (h:pj p1 = some r) (τ:TH) (hl:τ.lock ≤ τ.next):Ru G sf [.int .i64 p1] τ (.str r) τ:=by
 refine gp fun K hK => ?_
 rw [bc zdd7 (Nat.le_of_ble_eq_true rfl)]
 unfold pj at h
 obtain ⟨y1,hy1,h⟩:=ob h
 have k2:=zckk p1 _ hy1
 try simp only [CL,MC,reduceToNat] at k2
 obtain ⟨c3,h⟩:=ifS h
 injection h with h; subst h
 simp only [zdd1,TT,Ic.t,reduceCtorEq,hl,k2,c3]
 exact hK
theorem zclb (p1:Int) (r:ByteArray) (h:pj p1 = some r) (lk:Bool) (d:Option Nat) (K:ap) (fr:TF) (tk:TK) (τ:TH) (hl:τ.lock ≤ τ.next):du G lk sf [.int .i64 p1] d K fr tk τ = K (fp fr d (.str r)) tk τ :=
 au (zcxf p1 r h τ  hl) (zcxf p1 r h (τ.locked τ.next)  (Nat.le_refl _) ) (by simp only [TT])
def rh (p1:Int):Option ByteArray :=
 zb8j p1 >>= fun y1 =>
 if ¬ (9223372036854775807 < (((⟨#[115,101,101,100]⟩:ByteArray).size + y1.size:Nat):Int)) then
  some ((⟨#[115,101,101,100]⟩:ByteArray) ++ y1)
 else
  none
theorem zc8w (p1:Int) (r:ByteArray) (h:rh p1 = some r) (τ:TH) (hl:τ.lock ≤ τ.next):Ru G vo [.int .i64 p1] τ (.str r) τ:=by
 refine gp fun K hK => ?_
 rw [bc zbp4 (Nat.le_of_ble_eq_true rfl)]
 unfold rh at h
 obtain ⟨y1,hy1,h⟩:=ob h
 have k2:=zckk p1 _ hy1
 try simp only [CL,MC,reduceToNat] at k2
 obtain ⟨c3,h⟩:=ifS h
 injection h with h; subst h
 simp only [zbql,TT,Ic.t,reduceCtorEq,hl,k2,c3]
 exact hK
theorem zcli (p1:Int) (r:ByteArray) (h:rh p1 = some r) (lk:Bool) (d:Option Nat) (K:ap) (fr:TF) (tk:TK) (τ:TH) (hl:τ.lock ≤ τ.next):du G lk vo [.int .i64 p1] d K fr tk τ = K (fp fr d (.str r)) tk τ :=
 au (zc8w p1 r h τ  hl) (zc8w p1 r h (τ.locked τ.next)  (Nat.le_refl _) ) (by simp only [TT])
def zb9u :Option (List Int) :=
 some [(1116352408:Int),(1899447441:Int),(3049323471:Int),(3921009573:Int),(961987163:Int),(1508970993:Int),(2453635748:Int),(2870763221:Int),(3624381080:Int),(310598401:Int),(607225278:Int),(1426881987:Int),(1925078388:Int),(2162078206:Int),(2614888103:Int),(3248222580:Int),(3835390401:Int),(4022224774:Int),(264347078:Int),(604807628:Int),(770255983:Int),(1249150122:Int),(1555081692:Int),(1996064986:Int),(2554220882:Int),(2821834349:Int),(2952996808:Int),(3210313671:Int),(3336571891:Int),(3584528711:Int),(113926993:Int),(338241895:Int),(666307205:Int),(773529912:Int),(1294757372:Int),(1396182291:Int),(1695183700:Int),(1986661051:Int),(2177026350:Int),(2456956037:Int),(2730485921:Int),(2820302411:Int),(3259730800:Int),(3345764771:Int),(3516065817:Int),(3600352804:Int),(4094571909:Int),(275423344:Int),(430227734:Int),(506948616:Int),(659060556:Int),(883997877:Int),(958139571:Int),(1322822218:Int),(1537002063:Int),(1747873779:Int),(1955562222:Int),(2024104815:Int),(2227730452:Int),(2361852424:Int),(2428436474:Int),(2756734187:Int),(3204031479:Int),(3329325298:Int)]
theorem zda3  (r:(List Int)) (h:zb9u  = some r) (τ:TH) (hl:τ.lock ≤ τ.next):Ru G zb8b [] τ (.agg (List.map (TV.int .u32) r)) τ:=by
 refine gp fun K hK => ?_
 rw [bc zddl (Nat.le_of_ble_eq_true rfl)]
 unfold zb9u at h
 injection h with h; subst h
 simp only [zdcv,TT,Ic.t,reduceAdd,reduceLeDiff,reduceCtorEq,hl]
 exact hK
theorem zde1  (r:(List Int)) (h:zb9u  = some r) (lk:Bool) (d:Option Nat) (K:ap) (fr:TF) (tk:TK) (τ:TH) (hl:τ.lock ≤ τ.next):du G lk zb8b [] d K fr tk τ = K (fp fr d (.agg (List.map (TV.int .u32) r))) tk τ :=
 au (zda3  r h τ  hl) (zda3  r h (τ.locked τ.next)  (Nat.le_refl _) ) (by simp only [TT])
def mr (p1:Int) (p2:Int):Option Int :=
 if ¬ p2 < 0 then
  if ¬ (IntKind.u64.wrap ((32:Int) - p2)) < 0 then
   some (IntKind.u32.wrap ((BitVec.ofInt IntKind.u32.bits (Int.fdiv p1 (2 ^ (Nat.min p2.toNat IntKind.u32.bits))) ||| BitVec.ofInt IntKind.u32.bits (IntKind.u32.wrap (p1 * 2 ^ (Nat.min (IntKind.u64.wrap ((32:Int) - p2)).toNat IntKind.u32.bits)))).toNat:Int)) >>= fun x3 =>
   some x3
  else
   none
 else
  none
theorem zc8x (p1:Int) (p2:Int) (r:Int) (h:mr p1 p2 = some r) (τ:TH) (hl:τ.lock ≤ τ.next):Ru G mv [.int .u32 p1,.int .u64 p2] τ (.int .u32 r) τ:=by
 refine gp fun K hK => ?_
 rw [bc zbp2 (Nat.le_of_ble_eq_true rfl)]
 unfold mr at h
 obtain ⟨c1,h⟩:=ifS h
 obtain ⟨c2,h⟩:=ifS h
 obtain ⟨x3,hx3,h⟩:=ob h
 have f4:=Option.some.inj hx3
 injection h with h; subst h
 simp only [zbqk,TT,Ic.t,reduceEqDiff,reduceAdd,reduceCtorEq,c1,c2,f4]
 exact hK
theorem pi (p1:Int) (p2:Int) (r:Int) (h:mr p1 p2 = some r) (lk:Bool) (d:Option Nat) (K:ap) (fr:TF) (tk:TK) (τ:TH) (hl:τ.lock ≤ τ.next):du G lk mv [.int .u32 p1,.int .u64 p2] d K fr tk τ = K (fp fr d (.int .u32 r)) tk τ :=
 au (zc8x p1 p2 r h τ  hl) (zc8x p1 p2 r h (τ.locked τ.next)  (Nat.le_refl _) ) (by simp only [TT])
def kh (v0:ByteArray) (v1:(List Int)) (v2:(List Int)) (v4:(List Int)) (v3:(List Int)) (v5:Int):Option (LS ((List Int) × Int) ((List Int))) :=
 if v5 < (16:Int) then
  ixB v0 (IntKind.i64.wrap ((4:Int) * v5)) >>= fun b2 =>
  ixB v0 (IntKind.i64.wrap ((IntKind.i64.wrap ((4:Int) * v5)) + (1:Int))) >>= fun b4 =>
  ixB v0 (IntKind.i64.wrap ((IntKind.i64.wrap ((4:Int) * v5)) + (2:Int))) >>= fun b6 =>
  ixB v0 (IntKind.i64.wrap ((IntKind.i64.wrap ((4:Int) * v5)) + (3:Int))) >>= fun b8 =>
  if 0 ≤ v5 ∧ v5 < ((64:Nat):Int) then
   if v5.toNat + 1 ≤ v3.length then
    some (.nx ((v3.set v5.toNat (IntKind.u32.wrap ((BitVec.ofInt IntKind.u32.bits (IntKind.u32.wrap ((BitVec.ofInt IntKind.u32.bits (IntKind.u32.wrap ((BitVec.ofInt IntKind.u32.bits (IntKind.u32.wrap ((IntKind.u32.wrap b2) * 2 ^ (Nat.min 24 IntKind.u32.bits))) ||| BitVec.ofInt IntKind.u32.bits (IntKind.u32.wrap ((IntKind.u32.wrap b4) * 2 ^ (Nat.min 16 IntKind.u32.bits)))).toNat:Int)) ||| BitVec.ofInt IntKind.u32.bits (IntKind.u32.wrap ((IntKind.u32.wrap b6) * 2 ^ (Nat.min 8 IntKind.u32.bits)))).toNat:Int)) ||| BitVec.ofInt IntKind.u32.bits (IntKind.u32.wrap b8)).toNat:Int))),(IntKind.i64.wrap (v5 + (1:Int)))))
   else
    none
  else
   none
 else
 some (.dn v3)
def zcad (v0:ByteArray) (v1:(List Int)) (v2:(List Int)) (v4:(List Int)) (v3:(List Int)) (v5:Int):Option ((List Int)):=oq (fun st => kh v0 v1 v2 v4 st.1 st.2) (v3,v5)
theorem zc2r (v0:ByteArray) (v1:(List Int)) (v2:(List Int)) (v4:(List Int)) (v3:(List Int)) (v5:Int):zcad v0 v1 v2 v4 v3 v5 = kh v0 v1 v2 v4 v3 v5 >>= LS.go (fun st => zcad v0 v1 v2 v4 st.1 st.2):=ew (fun st => kh v0 v1 v2 v4 st.1 st.2) (v3,v5)
def zcfw (v0:ByteArray) (v1:(List Int)) (v2:(List Int)) (v4:(List Int)) (v3:(List Int)) (v5:Int) (r:(List Int)):Prop:=∀ (τ:TH) (o0:Nat) (o1:Nat) (o2:Nat) (o3:Nat) (hl:τ.lock ≤ τ.next) (ha0:τ.at o0 = some ⟨gr,List.map (TV.int .u32) v1⟩) (hi0:o0 < τ.next) (ha1:τ.at o1 = some ⟨gr,List.map (TV.int .u32) v2⟩) (hi1:o1 < τ.next) (ha2:τ.at o2 = some ⟨dq,List.map (TV.int .u32) v3⟩) (hi2:o2 < τ.next) (hw2:τ.lock ≤ o2) (ha3:τ.at o3 = some ⟨dq,List.map (TV.int .u32) v4⟩) (hi3:o3 < τ.next) (hn0_2:o0 ≠ o2) (hn1_2:o1 ≠ o2) (hn2_3:o2 ≠ o3) (Q:TEx → ap) (hQ0:∀ (fr:TF) (tk2:TK) (τ2:TH),lkp fr 2 = .ptr o0 0 → lkp fr 4 = .ptr o1 0 → lkp fr 5 = .ptr o2 0 → lkp fr 6 = .ptr o3 0 → tk2.take 0 = [] → τ2.cut τ.next = (τ.put o2 ⟨dq,List.map (TV.int .u32) r⟩) → Q (.exit 0) fr tk2 τ2) ,tW G (.loop [1,2,4,5,6,7] zcff) Q [(1,.str v0),(2,.ptr o0 0),(4,.ptr o1 0),(5,.ptr o2 0),(6,.ptr o3 0),(7,.int .i64 v5)] [] τ
theorem zdjy (v0:ByteArray) (v1:(List Int)) (v2:(List Int)) (v4:(List Int)) (v3:(List Int)) (v5:Int) (r:(List Int)) (h:zcad v0 v1 v2 v4 v3 v5 = some r):zcfw v0 v1 v2 v4 v3 v5 r:=by
 refine di (f:=fun st => kh v0 v1 v2 v4 st.1 st.2) (P:=fun st r => ∀ (v3:(List Int)) (v5:Int),(v3,v5) = st → zcfw v0 v1 v2 v4 v3 v5 r) ?_ h v3 v5 rfl
 clear h r v5 v3
 intro st o h r ih v3 v5 hst τ o0 o1 o2 o3  hl ha0 hi0 ha1 hi1 ha2 hi2 hw2 ha3 hi3 hn0_2 hn1_2 hn2_3 Q hQ0
 subst hst
 have h:kh v0 v1 v2 v4 v3 v5 = some o:=h
 unfold kh at h
 refine mo fun LQ hn hr he => ?_
 by_cases c1:v5 < (16:Int)
 · rw [if_pos c1] at h
   obtain ⟨b2,hb2,h⟩:=ob h
   have f3:=zbx2 hb2
   try simp only [CL,MC,reduceToNat] at f3
   obtain ⟨b4,hb4,h⟩:=ob h
   have f5:=zbx2 hb4
   try simp only [CL,MC,reduceToNat] at f5
   obtain ⟨b6,hb6,h⟩:=ob h
   have f7:=zbx2 hb6
   try simp only [CL,MC,reduceToNat] at f7
   obtain ⟨b8,hb8,h⟩:=ob h
   have f9:=zbx2 hb8
   try simp only [CL,MC,reduceToNat] at f9
   obtain ⟨c10,h⟩:=ifS h
   obtain ⟨c11,h⟩:=ifS h
   have f12:(List.map (TV.int .u32) v3).set v5.toNat (.int .u32 (IntKind.u32.wrap ((BitVec.ofInt IntKind.u32.bits (IntKind.u32.wrap ((BitVec.ofInt IntKind.u32.bits (IntKind.u32.wrap ((BitVec.ofInt IntKind.u32.bits (IntKind.u32.wrap ((IntKind.u32.wrap b2) * 2 ^ (Nat.min 24 IntKind.u32.bits))) ||| BitVec.ofInt IntKind.u32.bits (IntKind.u32.wrap ((IntKind.u32.wrap b4) * 2 ^ (Nat.min 16 IntKind.u32.bits)))).toNat:Int)) ||| BitVec.ofInt IntKind.u32.bits (IntKind.u32.wrap ((IntKind.u32.wrap b6) * 2 ^ (Nat.min 8 IntKind.u32.bits)))).toNat:Int)) ||| BitVec.ofInt IntKind.u32.bits (IntKind.u32.wrap b8)).toNat:Int))) = List.map (TV.int .u32) (v3.set v5.toNat (IntKind.u32.wrap ((BitVec.ofInt IntKind.u32.bits (IntKind.u32.wrap ((BitVec.ofInt IntKind.u32.bits (IntKind.u32.wrap ((BitVec.ofInt IntKind.u32.bits (IntKind.u32.wrap ((IntKind.u32.wrap b2) * 2 ^ (Nat.min 24 IntKind.u32.bits))) ||| BitVec.ofInt IntKind.u32.bits (IntKind.u32.wrap ((IntKind.u32.wrap b4) * 2 ^ (Nat.min 16 IntKind.u32.bits)))).toNat:Int)) ||| BitVec.ofInt IntKind.u32.bits (IntKind.u32.wrap ((IntKind.u32.wrap b6) * 2 ^ (Nat.min 8 IntKind.u32.bits)))).toNat:Int)) ||| BitVec.ofInt IntKind.u32.bits (IntKind.u32.wrap b8)).toNat:Int))):=zbyk (enc:=(TV.int .u32)) _ _ _
   injection h with h; subst h
   have ih:=ih (v3.set v5.toNat (IntKind.u32.wrap ((BitVec.ofInt IntKind.u32.bits (IntKind.u32.wrap ((BitVec.ofInt IntKind.u32.bits (IntKind.u32.wrap ((BitVec.ofInt IntKind.u32.bits (IntKind.u32.wrap ((IntKind.u32.wrap b2) * 2 ^ (Nat.min 24 IntKind.u32.bits))) ||| BitVec.ofInt IntKind.u32.bits (IntKind.u32.wrap ((IntKind.u32.wrap b4) * 2 ^ (Nat.min 16 IntKind.u32.bits)))).toNat:Int)) ||| BitVec.ofInt IntKind.u32.bits (IntKind.u32.wrap ((IntKind.u32.wrap b6) * 2 ^ (Nat.min 8 IntKind.u32.bits)))).toNat:Int)) ||| BitVec.ofInt IntKind.u32.bits (IntKind.u32.wrap b8)).toNat:Int))) (IntKind.i64.wrap (v5 + (1:Int))) rfl
   unfold zcfw at ih
   simp only [zcff,mq,TT,Ic.t,ci,reduceEqDiff,reduceCtorEq,reduceToNat,Int.reduceLT,hi0,hi1,ha2,hi2,hw2,hi3,c1,f3.1,f3.2.1,f3.2.2,f5.1,f5.2.1,f5.2.2,f7.1,f7.2.1,f7.2.2,f9.1,f9.2.1,f9.2.2,c10,c11,f12]
   rw [hn]
   simp only [TT,reduceEqDiff,hi0,hi1,hi2,hi3]
   exact ih  (τ.put o2 ⟨dq,List.map (TV.int .u32) (v3.set v5.toNat (IntKind.u32.wrap ((BitVec.ofInt IntKind.u32.bits (IntKind.u32.wrap ((BitVec.ofInt IntKind.u32.bits (IntKind.u32.wrap ((BitVec.ofInt IntKind.u32.bits (IntKind.u32.wrap ((IntKind.u32.wrap b2) * 2 ^ (Nat.min 24 IntKind.u32.bits))) ||| BitVec.ofInt IntKind.u32.bits (IntKind.u32.wrap ((IntKind.u32.wrap b4) * 2 ^ (Nat.min 16 IntKind.u32.bits)))).toNat:Int)) ||| BitVec.ofInt IntKind.u32.bits (IntKind.u32.wrap ((IntKind.u32.wrap b6) * 2 ^ (Nat.min 8 IntKind.u32.bits)))).toNat:Int)) ||| BitVec.ofInt IntKind.u32.bits (IntKind.u32.wrap b8)).toNat:Int)))⟩) o0 o1 o2 o3   (by simp only [aa,ag]; assumption) (by simp only [TT,ha0,nq hn0_2]) (by simp only [aa]; assumption) (by simp only [TT,ha1,nq hn1_2]) (by simp only [aa]; assumption) (by simp only [TT,hi2]) (by simp only [aa]; assumption) (by assumption) (by simp only [TT,ha3,nq hn2_3]) (by simp only [aa]; assumption) hn0_2 hn1_2 hn2_3 Q (fun fr tk2 τ2 g0 g1 g2 g3 ht hτ => hQ0 fr tk2 τ2 g0 g1 g2 g3 ht (by simpa only [aa,rf,hl,ha0,hi0,ha1,hi1,ha2,hi2,hw2,ha3,hi3,nq hn0_2,nq hn1_2,nq hn2_3] using hτ))
 rw [if_neg c1] at h
 injection h with h; subst h
 obtain rfl:_ = r:=ih
 simp only [zcff,mq,TT,Ic.t,ci,reduceEqDiff,reduceCtorEq,reduceToNat,Int.reduceLT,hi0,hi1,ha2,hi2,hw2,hi3,he,c1]
 exact hQ0  _ _ _  (by rfl) (by rfl) (by rfl) (by rfl) (by rfl) (by simp only [TT,jj ha2])
def kg (v0:(List Int)) (v1:(List Int)) (v3:(List Int)) (v2:(List Int)) (v4:Int):Option (LS ((List Int) × Int) ((List Int))) :=
 if v4 < (64:Int) then
  if 0 ≤ (IntKind.i64.wrap (v4 - (15:Int))) ∧ (IntKind.i64.wrap (v4 - (15:Int))) < ((64:Nat):Int) then
   ixL v2 (IntKind.i64.wrap (v4 - (15:Int))) >>= fun y3 =>
   mr y3 (7:Int) >>= fun y5 =>
   mr y3 (18:Int) >>= fun y7 =>
   some (IntKind.u32.wrap ((BitVec.ofInt IntKind.u32.bits (IntKind.u32.wrap ((BitVec.ofInt IntKind.u32.bits y5 ^^^ BitVec.ofInt IntKind.u32.bits y7).toNat:Int)) ^^^ BitVec.ofInt IntKind.u32.bits (Int.fdiv y3 (2 ^ (Nat.min 3 IntKind.u32.bits)))).toNat:Int)) >>= fun x9 =>
   if 0 ≤ (IntKind.i64.wrap (v4 - (2:Int))) ∧ (IntKind.i64.wrap (v4 - (2:Int))) < ((64:Nat):Int) then
    ixL v2 (IntKind.i64.wrap (v4 - (2:Int))) >>= fun y12 =>
    mr y12 (17:Int) >>= fun y14 =>
    mr y12 (19:Int) >>= fun y16 =>
    some (IntKind.u32.wrap ((BitVec.ofInt IntKind.u32.bits (IntKind.u32.wrap ((BitVec.ofInt IntKind.u32.bits y14 ^^^ BitVec.ofInt IntKind.u32.bits y16).toNat:Int)) ^^^ BitVec.ofInt IntKind.u32.bits (Int.fdiv y12 (2 ^ (Nat.min 10 IntKind.u32.bits)))).toNat:Int)) >>= fun x18 =>
    if 0 ≤ (IntKind.i64.wrap (v4 - (16:Int))) ∧ (IntKind.i64.wrap (v4 - (16:Int))) < ((64:Nat):Int) then
     ixL v2 (IntKind.i64.wrap (v4 - (16:Int))) >>= fun y21 =>
     if 0 ≤ (IntKind.i64.wrap (v4 - (7:Int))) ∧ (IntKind.i64.wrap (v4 - (7:Int))) < ((64:Nat):Int) then
      ixL v2 (IntKind.i64.wrap (v4 - (7:Int))) >>= fun y24 =>
      if 0 ≤ v4 ∧ v4 < ((64:Nat):Int) then
       if v4.toNat + 1 ≤ v2.length then
        some (.nx ((v2.set v4.toNat (IntKind.u32.wrap ((IntKind.u32.wrap ((IntKind.u32.wrap (y21 + x9)) + y24)) + x18))),(IntKind.i64.wrap (v4 + (1:Int)))))
       else
        none
      else
       none
     else
      none
    else
     none
   else
    none
  else
   none
 else
 some (.dn v2)
def zcae (v0:(List Int)) (v1:(List Int)) (v3:(List Int)) (v2:(List Int)) (v4:Int):Option ((List Int)):=oq (fun st => kg v0 v1 v3 st.1 st.2) (v2,v4)
theorem zc2s (v0:(List Int)) (v1:(List Int)) (v3:(List Int)) (v2:(List Int)) (v4:Int):zcae v0 v1 v3 v2 v4 = kg v0 v1 v3 v2 v4 >>= LS.go (fun st => zcae v0 v1 v3 st.1 st.2):=ew (fun st => kg v0 v1 v3 st.1 st.2) (v2,v4)
def zcfx (v0:(List Int)) (v1:(List Int)) (v3:(List Int)) (v2:(List Int)) (v4:Int) (r:(List Int)):Prop:=∀ (τ:TH) (o0:Nat) (o1:Nat) (o2:Nat) (o3:Nat) (hl:τ.lock ≤ τ.next) (ha0:τ.at o0 = some ⟨gr,List.map (TV.int .u32) v0⟩) (hi0:o0 < τ.next) (ha1:τ.at o1 = some ⟨gr,List.map (TV.int .u32) v1⟩) (hi1:o1 < τ.next) (ha2:τ.at o2 = some ⟨dq,List.map (TV.int .u32) v2⟩) (hi2:o2 < τ.next) (hw2:τ.lock ≤ o2) (ha3:τ.at o3 = some ⟨dq,List.map (TV.int .u32) v3⟩) (hi3:o3 < τ.next) (hn0_2:o0 ≠ o2) (hn1_2:o1 ≠ o2) (hn2_3:o2 ≠ o3) (Q:TEx → ap) (hQ0:∀ (fr:TF) (tk2:TK) (τ2:TH),lkp fr 2 = .ptr o0 0 → lkp fr 4 = .ptr o1 0 → lkp fr 5 = .ptr o2 0 → lkp fr 6 = .ptr o3 0 → tk2.take 0 = [] → τ2.cut τ.next = (τ.put o2 ⟨dq,List.map (TV.int .u32) r⟩) → Q (.exit 2) fr tk2 τ2) ,tW G (.loop [2,4,5,6,8] zcfg) Q [(2,.ptr o0 0),(4,.ptr o1 0),(5,.ptr o2 0),(6,.ptr o3 0),(8,.int .i64 v4)] [] τ
theorem zdjz (v0:(List Int)) (v1:(List Int)) (v3:(List Int)) (v2:(List Int)) (v4:Int) (r:(List Int)) (h:zcae v0 v1 v3 v2 v4 = some r):zcfx v0 v1 v3 v2 v4 r:=by
 refine di (f:=fun st => kg v0 v1 v3 st.1 st.2) (P:=fun st r => ∀ (v2:(List Int)) (v4:Int),(v2,v4) = st → zcfx v0 v1 v3 v2 v4 r) ?_ h v2 v4 rfl
 clear h r v4 v2
 intro st o h r ih v2 v4 hst τ o0 o1 o2 o3  hl ha0 hi0 ha1 hi1 ha2 hi2 hw2 ha3 hi3 hn0_2 hn1_2 hn2_3 Q hQ0
 subst hst
 have h:kg v0 v1 v3 v2 v4 = some o:=h
 unfold kg at h
 refine mo fun LQ hn hr he => ?_
 by_cases c1:v4 < (64:Int)
 · rw [if_pos c1] at h
   obtain ⟨c2,h⟩:=ifS h
   obtain ⟨y3,hy3,h⟩:=ob h
   have f4:=av hy3
   have f4a:=(f4.2.2 (TV.int .u32)).1
   have f4b:=(f4.2.2 (TV.int .u32)).2
   try simp only [CL,MC,reduceToNat] at f4 f4a f4b
   obtain ⟨y5,hy5,h⟩:=ob h
   have k6:=pi y3 (7:Int) _ hy5
   try simp only [CL,MC,reduceToNat] at k6
   obtain ⟨y7,hy7,h⟩:=ob h
   have k8:=pi y3 (18:Int) _ hy7
   try simp only [CL,MC,reduceToNat] at k8
   obtain ⟨x9,hx9,h⟩:=ob h
   have f10:=Option.some.inj hx9
   obtain ⟨c11,h⟩:=ifS h
   obtain ⟨y12,hy12,h⟩:=ob h
   have f13:=av hy12
   have f13a:=(f13.2.2 (TV.int .u32)).1
   have f13b:=(f13.2.2 (TV.int .u32)).2
   try simp only [CL,MC,reduceToNat] at f13 f13a f13b
   obtain ⟨y14,hy14,h⟩:=ob h
   have k15:=pi y12 (17:Int) _ hy14
   try simp only [CL,MC,reduceToNat] at k15
   obtain ⟨y16,hy16,h⟩:=ob h
   have k17:=pi y12 (19:Int) _ hy16
   try simp only [CL,MC,reduceToNat] at k17
   obtain ⟨x18,hx18,h⟩:=ob h
   have f19:=Option.some.inj hx18
   obtain ⟨c20,h⟩:=ifS h
   obtain ⟨y21,hy21,h⟩:=ob h
   have f22:=av hy21
   have f22a:=(f22.2.2 (TV.int .u32)).1
   have f22b:=(f22.2.2 (TV.int .u32)).2
   try simp only [CL,MC,reduceToNat] at f22 f22a f22b
   obtain ⟨c23,h⟩:=ifS h
   obtain ⟨y24,hy24,h⟩:=ob h
   have f25:=av hy24
   have f25a:=(f25.2.2 (TV.int .u32)).1
   have f25b:=(f25.2.2 (TV.int .u32)).2
   try simp only [CL,MC,reduceToNat] at f25 f25a f25b
   obtain ⟨c26,h⟩:=ifS h
   obtain ⟨c27,h⟩:=ifS h
   have f28:(List.map (TV.int .u32) v2).set v4.toNat (.int .u32 (IntKind.u32.wrap ((IntKind.u32.wrap ((IntKind.u32.wrap (y21 + x9)) + y24)) + x18))) = List.map (TV.int .u32) (v2.set v4.toNat (IntKind.u32.wrap ((IntKind.u32.wrap ((IntKind.u32.wrap (y21 + x9)) + y24)) + x18))):=zbyk (enc:=(TV.int .u32)) _ _ _
   injection h with h; subst h
   have ih:=ih (v2.set v4.toNat (IntKind.u32.wrap ((IntKind.u32.wrap ((IntKind.u32.wrap (y21 + x9)) + y24)) + x18))) (IntKind.i64.wrap (v4 + (1:Int))) rfl
   unfold zcfx at ih
   simp only [zcfg,mq,TT,Ic.t,ci,reduceEqDiff,reduceCtorEq,reduceToNat,Int.reduceLT,hl,hi0,hi1,ha2,hi2,hw2,hi3,c1,c2,f4b,k6,k8,f10,c11,f13b,k15,k17,f19,c20,f22b,c23,f25b,c26,c27,f28]
   rw [hn]
   simp only [TT,reduceEqDiff,hi0,hi1,hi2,hi3]
   exact ih  (τ.put o2 ⟨dq,List.map (TV.int .u32) (v2.set v4.toNat (IntKind.u32.wrap ((IntKind.u32.wrap ((IntKind.u32.wrap (y21 + x9)) + y24)) + x18)))⟩) o0 o1 o2 o3   (by simp only [aa,ag]; assumption) (by simp only [TT,ha0,nq hn0_2]) (by simp only [aa]; assumption) (by simp only [TT,ha1,nq hn1_2]) (by simp only [aa]; assumption) (by simp only [TT,hi2]) (by simp only [aa]; assumption) (by assumption) (by simp only [TT,ha3,nq hn2_3]) (by simp only [aa]; assumption) hn0_2 hn1_2 hn2_3 Q (fun fr tk2 τ2 g0 g1 g2 g3 ht hτ => hQ0 fr tk2 τ2 g0 g1 g2 g3 ht (by simpa only [aa,rf,hl,ha0,hi0,ha1,hi1,ha2,hi2,hw2,ha3,hi3,nq hn0_2,nq hn1_2,nq hn2_3] using hτ))
 rw [if_neg c1] at h
 injection h with h; subst h
 obtain rfl:_ = r:=ih
 simp only [zcfg,mq,TT,Ic.t,ci,reduceEqDiff,reduceCtorEq,ha2,he,c1]
 exact hQ0  _ _ _  (by rfl) (by rfl) (by rfl) (by rfl) (by rfl) (by simp only [TT,jj ha2])
def kf (v0:(List Int)) (v1:(List Int)) (v2:(List Int)) (v3:(List Int)) (v4:(List Int)) (v5:Int):Option (LS ((List Int) × Int) ((List Int))) :=
 if v5 < (64:Int) then
  ixL v4 (4:Int) >>= fun y3 =>
  mr y3 (6:Int) >>= fun y7 =>
  mr y3 (11:Int) >>= fun y9 =>
  mr y3 (25:Int) >>= fun y11 =>
  some (IntKind.u32.wrap ((BitVec.ofInt IntKind.u32.bits (IntKind.u32.wrap ((BitVec.ofInt IntKind.u32.bits y7 ^^^ BitVec.ofInt IntKind.u32.bits y9).toNat:Int)) ^^^ BitVec.ofInt IntKind.u32.bits y11).toNat:Int)) >>= fun x13 =>
  ixL v4 (7:Int) >>= fun y16 =>
  ixL v4 (5:Int) >>= fun y20 =>
  ixL v4 (6:Int) >>= fun y24 =>
  if 0 ≤ v5 ∧ v5 < ((64:Nat):Int) then
   ixL v3 v5 >>= fun y27 =>
   ixL v2 v5 >>= fun y29 =>
   some (IntKind.u32.wrap ((IntKind.u32.wrap ((IntKind.u32.wrap ((IntKind.u32.wrap (y16 + x13)) + (IntKind.u32.wrap ((BitVec.ofInt IntKind.u32.bits (IntKind.u32.wrap ((BitVec.ofInt IntKind.u32.bits y3 &&& BitVec.ofInt IntKind.u32.bits y20).toNat:Int)) ^^^ BitVec.ofInt IntKind.u32.bits (IntKind.u32.wrap ((BitVec.ofInt IntKind.u32.bits (zcgw .u32 y3) &&& BitVec.ofInt IntKind.u32.bits y24).toNat:Int))).toNat:Int)))) + y27)) + y29)) >>= fun x31 =>
   ixL v4 (0:Int) >>= fun y34 =>
   mr y34 (2:Int) >>= fun y38 =>
   mr y34 (13:Int) >>= fun y40 =>
   mr y34 (22:Int) >>= fun y42 =>
   some (IntKind.u32.wrap ((BitVec.ofInt IntKind.u32.bits (IntKind.u32.wrap ((BitVec.ofInt IntKind.u32.bits y38 ^^^ BitVec.ofInt IntKind.u32.bits y40).toNat:Int)) ^^^ BitVec.ofInt IntKind.u32.bits y42).toNat:Int)) >>= fun x44 =>
   ixL v4 (1:Int) >>= fun y48 =>
   ixL v4 (2:Int) >>= fun y52 =>
   some (IntKind.u32.wrap (x44 + (IntKind.u32.wrap ((BitVec.ofInt IntKind.u32.bits (IntKind.u32.wrap ((BitVec.ofInt IntKind.u32.bits (IntKind.u32.wrap ((BitVec.ofInt IntKind.u32.bits y34 &&& BitVec.ofInt IntKind.u32.bits y48).toNat:Int)) ^^^ BitVec.ofInt IntKind.u32.bits (IntKind.u32.wrap ((BitVec.ofInt IntKind.u32.bits y34 &&& BitVec.ofInt IntKind.u32.bits y52).toNat:Int))).toNat:Int)) ^^^ BitVec.ofInt IntKind.u32.bits (IntKind.u32.wrap ((BitVec.ofInt IntKind.u32.bits y48 &&& BitVec.ofInt IntKind.u32.bits y52).toNat:Int))).toNat:Int)))) >>= fun x56 =>
   ixL v4 (3:Int) >>= fun y62 =>
   if v4.length = 8 then
    some (.nx ([(IntKind.u32.wrap (x31 + x56)),y34,y48,y52,(IntKind.u32.wrap (y62 + x31)),y3,y20,y24],(IntKind.i64.wrap (v5 + (1:Int)))))
   else
    none
  else
   none
 else
 some (.dn v4)
def zcaf (v0:(List Int)) (v1:(List Int)) (v2:(List Int)) (v3:(List Int)) (v4:(List Int)) (v5:Int):Option ((List Int)):=oq (fun st => kf v0 v1 v2 v3 st.1 st.2) (v4,v5)
theorem zc29 (v0:(List Int)) (v1:(List Int)) (v2:(List Int)) (v3:(List Int)) (v4:(List Int)) (v5:Int):zcaf v0 v1 v2 v3 v4 v5 = kf v0 v1 v2 v3 v4 v5 >>= LS.go (fun st => zcaf v0 v1 v2 v3 st.1 st.2):=ew (fun st => kf v0 v1 v2 v3 st.1 st.2) (v4,v5)
def zcfy (v0:(List Int)) (v1:(List Int)) (v2:(List Int)) (v3:(List Int)) (v4:(List Int)) (v5:Int) (r:(List Int)):Prop:=∀ (τ:TH) (o0:Nat) (o1:Nat) (o2:Nat) (o3:Nat) (o4:Nat) (hl:τ.lock ≤ τ.next) (ha0:τ.at o0 = some ⟨gr,List.map (TV.int .u32) v0⟩) (hi0:o0 < τ.next) (ha1:τ.at o1 = some ⟨gr,List.map (TV.int .u32) v1⟩) (hi1:o1 < τ.next) (ha2:τ.at o2 = some ⟨dq,List.map (TV.int .u32) v2⟩) (hi2:o2 < τ.next) (ha3:τ.at o3 = some ⟨dq,List.map (TV.int .u32) v3⟩) (hi3:o3 < τ.next) (ha4:τ.at o4 = some ⟨gr,List.map (TV.int .u32) v4⟩) (hi4:o4 < τ.next) (hw4:τ.lock ≤ o4) (hn0_4:o0 ≠ o4) (hn1_4:o1 ≠ o4) (hn2_4:o2 ≠ o4) (hn3_4:o3 ≠ o4) (Q:TEx → ap) (hQ0:∀ (fr:TF) (tk2:TK) (τ2:TH),lkp fr 2 = .ptr o0 0 → lkp fr 4 = .ptr o1 0 → lkp fr 11 = .ptr o4 0 → tk2.take 0 = [] → τ2.cut τ.next = (τ.put o4 ⟨gr,List.map (TV.int .u32) r⟩) → Q (.exit 4) fr tk2 τ2) ,tW G (.loop [2,4,5,6,11,12] zcfh) Q [(2,.ptr o0 0),(4,.ptr o1 0),(5,.ptr o2 0),(6,.ptr o3 0),(11,.ptr o4 0),(12,.int .i64 v5)] [] τ
theorem zdj0 (v0:(List Int)) (v1:(List Int)) (v2:(List Int)) (v3:(List Int)) (v4:(List Int)) (v5:Int) (r:(List Int)) (h:zcaf v0 v1 v2 v3 v4 v5 = some r):zcfy v0 v1 v2 v3 v4 v5 r:=by
 refine di (f:=fun st => kf v0 v1 v2 v3 st.1 st.2) (P:=fun st r => ∀ (v4:(List Int)) (v5:Int),(v4,v5) = st → zcfy v0 v1 v2 v3 v4 v5 r) ?_ h v4 v5 rfl
 clear h r v5 v4
 intro st o h r ih v4 v5 hst τ o0 o1 o2 o3 o4  hl ha0 hi0 ha1 hi1 ha2 hi2 ha3 hi3 ha4 hi4 hw4 hn0_4 hn1_4 hn2_4 hn3_4 Q hQ0
 subst hst
 have h:kf v0 v1 v2 v3 v4 v5 = some o:=h
 unfold kf at h
 refine mo fun LQ hn hr he => ?_
 by_cases c1:v5 < (64:Int)
 · rw [if_pos c1] at h
   have f2:(4:Int) < ((8:Nat):Int):=by decide
   obtain ⟨y3,hy3,h⟩:=ob h
   have f4:=av hy3
   have f4a:=(f4.2.2 (TV.int .u32)).1
   have f4b:=(f4.2.2 (TV.int .u32)).2
   try simp only [reduceToNat] at f4 f4a f4b
   have f5:(4:Int) < ((8:Nat):Int):=by decide
   have f6:(4:Int) < ((8:Nat):Int):=by decide
   obtain ⟨y7,hy7,h⟩:=ob h
   have k8:=pi y3 (6:Int) _ hy7
   try simp only [CL,MC,reduceToNat] at k8
   obtain ⟨y9,hy9,h⟩:=ob h
   have k10:=pi y3 (11:Int) _ hy9
   try simp only [CL,MC,reduceToNat] at k10
   obtain ⟨y11,hy11,h⟩:=ob h
   have k12:=pi y3 (25:Int) _ hy11
   try simp only [CL,MC,reduceToNat] at k12
   obtain ⟨x13,hx13,h⟩:=ob h
   have f14:=Option.some.inj hx13
   have f15:(7:Int) < ((8:Nat):Int):=by decide
   obtain ⟨y16,hy16,h⟩:=ob h
   have f17:=av hy16
   have f17a:=(f17.2.2 (TV.int .u32)).1
   have f17b:=(f17.2.2 (TV.int .u32)).2
   try simp only [reduceToNat] at f17 f17a f17b
   have f18:(4:Int) < ((8:Nat):Int):=by decide
   have f19:(5:Int) < ((8:Nat):Int):=by decide
   obtain ⟨y20,hy20,h⟩:=ob h
   have f21:=av hy20
   have f21a:=(f21.2.2 (TV.int .u32)).1
   have f21b:=(f21.2.2 (TV.int .u32)).2
   try simp only [reduceToNat] at f21 f21a f21b
   have f22:(4:Int) < ((8:Nat):Int):=by decide
   have f23:(6:Int) < ((8:Nat):Int):=by decide
   obtain ⟨y24,hy24,h⟩:=ob h
   have f25:=av hy24
   have f25a:=(f25.2.2 (TV.int .u32)).1
   have f25b:=(f25.2.2 (TV.int .u32)).2
   try simp only [reduceToNat] at f25 f25a f25b
   obtain ⟨c26,h⟩:=ifS h
   obtain ⟨y27,hy27,h⟩:=ob h
   have f28:=av hy27
   have f28a:=(f28.2.2 (TV.int .u32)).1
   have f28b:=(f28.2.2 (TV.int .u32)).2
   try simp only [CL,MC,reduceToNat] at f28 f28a f28b
   obtain ⟨y29,hy29,h⟩:=ob h
   have f30:=av hy29
   have f30a:=(f30.2.2 (TV.int .u32)).1
   have f30b:=(f30.2.2 (TV.int .u32)).2
   try simp only [CL,MC,reduceToNat] at f30 f30a f30b
   obtain ⟨x31,hx31,h⟩:=ob h
   have f32:=Option.some.inj hx31
   have f33:(0:Int) < ((8:Nat):Int):=by decide
   obtain ⟨y34,hy34,h⟩:=ob h
   have f35:=av hy34
   have f35a:=(f35.2.2 (TV.int .u32)).1
   have f35b:=(f35.2.2 (TV.int .u32)).2
   try simp only [reduceToNat] at f35 f35a f35b
   have f36:(0:Int) < ((8:Nat):Int):=by decide
   have f37:(0:Int) < ((8:Nat):Int):=by decide
   obtain ⟨y38,hy38,h⟩:=ob h
   have k39:=pi y34 (2:Int) _ hy38
   try simp only [CL,MC,reduceToNat] at k39
   obtain ⟨y40,hy40,h⟩:=ob h
   have k41:=pi y34 (13:Int) _ hy40
   try simp only [CL,MC,reduceToNat] at k41
   obtain ⟨y42,hy42,h⟩:=ob h
   have k43:=pi y34 (22:Int) _ hy42
   try simp only [CL,MC,reduceToNat] at k43
   obtain ⟨x44,hx44,h⟩:=ob h
   have f45:=Option.some.inj hx44
   have f46:(0:Int) < ((8:Nat):Int):=by decide
   have f47:(1:Int) < ((8:Nat):Int):=by decide
   obtain ⟨y48,hy48,h⟩:=ob h
   have f49:=av hy48
   have f49a:=(f49.2.2 (TV.int .u32)).1
   have f49b:=(f49.2.2 (TV.int .u32)).2
   try simp only [reduceToNat] at f49 f49a f49b
   have f50:(0:Int) < ((8:Nat):Int):=by decide
   have f51:(2:Int) < ((8:Nat):Int):=by decide
   obtain ⟨y52,hy52,h⟩:=ob h
   have f53:=av hy52
   have f53a:=(f53.2.2 (TV.int .u32)).1
   have f53b:=(f53.2.2 (TV.int .u32)).2
   try simp only [reduceToNat] at f53 f53a f53b
   have f54:(1:Int) < ((8:Nat):Int):=by decide
   have f55:(2:Int) < ((8:Nat):Int):=by decide
   obtain ⟨x56,hx56,h⟩:=ob h
   have f57:=Option.some.inj hx56
   have f58:(0:Int) < ((8:Nat):Int):=by decide
   have f59:(1:Int) < ((8:Nat):Int):=by decide
   have f60:(2:Int) < ((8:Nat):Int):=by decide
   have f61:(3:Int) < ((8:Nat):Int):=by decide
   obtain ⟨y62,hy62,h⟩:=ob h
   have f63:=av hy62
   have f63a:=(f63.2.2 (TV.int .u32)).1
   have f63b:=(f63.2.2 (TV.int .u32)).2
   try simp only [reduceToNat] at f63 f63a f63b
   have f64:(4:Int) < ((8:Nat):Int):=by decide
   have f65:(5:Int) < ((8:Nat):Int):=by decide
   have f66:(6:Int) < ((8:Nat):Int):=by decide
   obtain ⟨c67,h⟩:=ifS h
   have f68:=bv (enc:=(TV.int .u32)) (cs:=List.map (TV.int .u32) v4) (l:=[(IntKind.u32.wrap (x31 + x56)),y34,y48,y52,(IntKind.u32.wrap (y62 + x31)),y3,y20,y24]) (by simp [c67])
   simp only [List.map_cons,List.map_nil,zcl3,zchy,Nat.zero_add,reduceAdd] at f68
   have f68b:=Nat.le_of_eq (Eq.symm c67)
   have f69:8 ≤ v4.length:=Nat.le_of_eq (Eq.symm c67)
   injection h with h; subst h
   have ih:=ih [(IntKind.u32.wrap (x31 + x56)),y34,y48,y52,(IntKind.u32.wrap (y62 + x31)),y3,y20,y24] (IntKind.i64.wrap (v5 + (1:Int))) rfl
   unfold zcfy at ih
   simp only [zcfh,mq,TT,Ic.t,ci,reduceEqDiff,reduceAdd,reduceLeDiff,reduceCtorEq,reduceToNat,hl,hi0,hi1,ha2,hi2,ha3,hi3,ha4,hi4,hw4,c1,f2,f4.1,f4b,k8,k10,k12,f14,f15,f17.1,f17b,f19,f21.1,f21b,f23,f25.1,f25b,c26,f28b,f30b,f32,f33,f35.1,f35b,k39,k41,k43,f45,f47,f49.1,f49b,f51,f53.1,f53b,f57,f61,f63.1,f63b,c67,f68]
   rw [hn]
   simp only [TT,reduceEqDiff,hi0,hi1,hi2,hi3,hi4]
   exact ih  (τ.put o4 ⟨gr,List.map (TV.int .u32) [(IntKind.u32.wrap (x31 + x56)),y34,y48,y52,(IntKind.u32.wrap (y62 + x31)),y3,y20,y24]⟩) o0 o1 o2 o3 o4   (by simp only [aa,ag]; assumption) (by simp only [TT,ha0,nq hn0_4]) (by simp only [aa]; assumption) (by simp only [TT,ha1,nq hn1_4]) (by simp only [aa]; assumption) (by simp only [TT,ha2,nq hn2_4]) (by simp only [aa]; assumption) (by simp only [TT,ha3,nq hn3_4]) (by simp only [aa]; assumption) (by simp only [TT,hi4]) (by simp only [aa]; assumption) (by assumption) hn0_4 hn1_4 hn2_4 hn3_4 Q (fun fr tk2 τ2 g0 g1 g2 ht hτ => hQ0 fr tk2 τ2 g0 g1 g2 ht (by simpa only [aa,rf,hl,ha0,hi0,ha1,hi1,ha2,hi2,ha3,hi3,ha4,hi4,hw4,nq hn0_4,nq hn1_4,nq hn2_4,nq hn3_4] using hτ))
 rw [if_neg c1] at h
 injection h with h; subst h
 obtain rfl:_ = r:=ih
 simp only [zcfh,mq,TT,Ic.t,ci,reduceEqDiff,reduceCtorEq,reduceToNat,reduceLE,ha4,he,c1]
 exact hQ0  _ _ _  (by rfl) (by rfl) (by rfl) (by rfl) (by simp only [TT,jj ha4])
def ke (v1:(List Int)) (v2:(List Int)) (v0:(List Int)) (v3:Int):Option (LS ((List Int) × Int) ((List Int))) :=
 if v3 < (8:Int) then
  if 0 ≤ v3 ∧ v3 < ((8:Nat):Int) then
   ixL v0 v3 >>= fun y3 =>
   ixL v2 v3 >>= fun y5 =>
   if v3.toNat + 1 ≤ v0.length then
    some (.nx ((v0.set v3.toNat (IntKind.u32.wrap (y3 + y5))),(IntKind.i64.wrap (v3 + (1:Int)))))
   else
    none
  else
   none
 else
 some (.dn v0)
def zcag (v1:(List Int)) (v2:(List Int)) (v0:(List Int)) (v3:Int):Option ((List Int)):=oq (fun st => ke v1 v2 st.1 st.2) (v0,v3)
theorem zc3a (v1:(List Int)) (v2:(List Int)) (v0:(List Int)) (v3:Int):zcag v1 v2 v0 v3 = ke v1 v2 v0 v3 >>= LS.go (fun st => zcag v1 v2 st.1 st.2):=ew (fun st => ke v1 v2 st.1 st.2) (v0,v3)
def zcfz (v1:(List Int)) (v2:(List Int)) (v0:(List Int)) (v3:Int) (r:(List Int)):Prop:=∀ (τ:TH) (o0:Nat) (o1:Nat) (o2:Nat) (hl:τ.lock ≤ τ.next) (ha0:τ.at o0 = some ⟨gr,List.map (TV.int .u32) v0⟩) (hi0:o0 < τ.next) (hw0:τ.lock ≤ o0) (ha1:τ.at o1 = some ⟨gr,List.map (TV.int .u32) v1⟩) (hi1:o1 < τ.next) (ha2:τ.at o2 = some ⟨gr,List.map (TV.int .u32) v2⟩) (hi2:o2 < τ.next) (hn0_1:o0 ≠ o1) (hn0_2:o0 ≠ o2) (Q:TEx → ap) (hQ0:∀ (fr:TF) (tk2:TK) (τ2:TH),lkp fr 2 = .ptr o0 0 → lkp fr 4 = .ptr o1 0 → tk2.take 0 = [] → τ2.cut τ.next = (τ.put o0 ⟨gr,List.map (TV.int .u32) r⟩) → Q (.exit 6) fr tk2 τ2) ,tW G (.loop [2,4,11,17] zcfi) Q [(2,.ptr o0 0),(4,.ptr o1 0),(11,.ptr o2 0),(17,.int .i64 v3)] [] τ
theorem zdj1 (v1:(List Int)) (v2:(List Int)) (v0:(List Int)) (v3:Int) (r:(List Int)) (h:zcag v1 v2 v0 v3 = some r):zcfz v1 v2 v0 v3 r:=by
 refine di (f:=fun st => ke v1 v2 st.1 st.2) (P:=fun st r => ∀ (v0:(List Int)) (v3:Int),(v0,v3) = st → zcfz v1 v2 v0 v3 r) ?_ h v0 v3 rfl
 clear h r v3 v0
 intro st o h r ih v0 v3 hst τ o0 o1 o2  hl ha0 hi0 hw0 ha1 hi1 ha2 hi2 hn0_1 hn0_2 Q hQ0
 subst hst
 have h:ke v1 v2 v0 v3 = some o:=h
 unfold ke at h
 refine mo fun LQ hn hr he => ?_
 by_cases c1:v3 < (8:Int)
 · rw [if_pos c1] at h
   obtain ⟨c2,h⟩:=ifS h
   obtain ⟨y3,hy3,h⟩:=ob h
   have f4:=av hy3
   have f4a:=(f4.2.2 (TV.int .u32)).1
   have f4b:=(f4.2.2 (TV.int .u32)).2
   try simp only [CL,MC,reduceToNat] at f4 f4a f4b
   obtain ⟨y5,hy5,h⟩:=ob h
   have f6:=av hy5
   have f6a:=(f6.2.2 (TV.int .u32)).1
   have f6b:=(f6.2.2 (TV.int .u32)).2
   try simp only [CL,MC,reduceToNat] at f6 f6a f6b
   obtain ⟨c7,h⟩:=ifS h
   have f8:(List.map (TV.int .u32) v0).set v3.toNat (.int .u32 (IntKind.u32.wrap (y3 + y5))) = List.map (TV.int .u32) (v0.set v3.toNat (IntKind.u32.wrap (y3 + y5))):=zbyk (enc:=(TV.int .u32)) _ _ _
   injection h with h; subst h
   have ih:=ih (v0.set v3.toNat (IntKind.u32.wrap (y3 + y5))) (IntKind.i64.wrap (v3 + (1:Int))) rfl
   unfold zcfz at ih
   simp only [zcfi,mq,TT,Ic.t,ci,reduceEqDiff,reduceCtorEq,ha0,hi0,hw0,hi1,ha2,hi2,c1,c2,f4b,f6b,c7,f8]
   rw [hn]
   simp only [TT,reduceEqDiff,hi0,hi1,hi2]
   exact ih  (τ.put o0 ⟨gr,List.map (TV.int .u32) (v0.set v3.toNat (IntKind.u32.wrap (y3 + y5)))⟩) o0 o1 o2   (by simp only [aa,ag]; assumption) (by simp only [TT,hi0]) (by simp only [aa]; assumption) (by assumption) (by simp only [TT,ha1,nq hn0_1]) (by simp only [aa]; assumption) (by simp only [TT,ha2,nq hn0_2]) (by simp only [aa]; assumption) hn0_1 hn0_2 Q (fun fr tk2 τ2 g0 g1 ht hτ => hQ0 fr tk2 τ2 g0 g1 ht (by simpa only [aa,rf,hl,ha0,hi0,hw0,ha1,hi1,ha2,hi2,nq hn0_1,nq hn0_2] using hτ))
 rw [if_neg c1] at h
 injection h with h; subst h
 obtain rfl:_ = r:=ih
 simp only [zcfi,mq,TT,Ic.t,ci,reduceEqDiff,reduceCtorEq,ha0,he,c1]
 exact hQ0  _ _ _  (by rfl) (by rfl) (by rfl) (by simp only [TT,jj ha0])
def zb76 (p1:(List Int)) (p2:ByteArray):Option (List Int) :=
 zb9u >>= fun y1 =>
 if y1.length = 64 then
  zcad p2 p1 [(0:Int),(0:Int),(0:Int),(0:Int),(0:Int),(0:Int),(0:Int),(0:Int)] y1 (List.replicate 64 (0:Int)) (0:Int) >>= fun y6 =>
  zcae p1 [(0:Int),(0:Int),(0:Int),(0:Int),(0:Int),(0:Int),(0:Int),(0:Int)] y1 y6 (16:Int) >>= fun y8 =>
  if p1.length = 8 then
   if p1.length = 8 then
    zcaf p1 [(0:Int),(0:Int),(0:Int),(0:Int),(0:Int),(0:Int),(0:Int),(0:Int)] y8 y1 p1 (0:Int) >>= fun y16 =>
    zcag [(0:Int),(0:Int),(0:Int),(0:Int),(0:Int),(0:Int),(0:Int),(0:Int)] y16 p1 (0:Int) >>= fun y18 =>
    if y18.length = 8 then
     if y18.length = 8 then
      some y18
     else
      none
    else
     none
   else
    none
  else
   none
 else
  none
theorem zda2 (p1:(List Int)) (p2:ByteArray) (r:(List Int)) (h:zb76 p1 p2 = some r) (τ:TH) (hl:τ.lock ≤ τ.next):Ru G zb8a [.agg (List.map (TV.int .u32) p1),.str p2] τ (.agg (List.map (TV.int .u32) r)) τ:=by
 refine gp fun K hK => ?_
 rw [bc zddk (Nat.le_of_ble_eq_true rfl)]
 unfold zb76 at h
 obtain ⟨y1,hy1,h⟩:=ob h
 have k2:=zde1  _ hy1
 try simp only [CL,MC,reduceToNat] at k2
 obtain ⟨c3,h⟩:=ifS h
 have f4:(List.map (TV.int .u32) y1 = []) = False:=zb7d c3 (by decide)
 have f5:y1.length ≤ 64:=Nat.le_of_eq c3
 obtain ⟨y6,hy6,h⟩:=ob h
 simp only [mq,TT,Ic.t,ci,reduceEqDiff,reduceAdd,reduceCtorEq,hl,k2,c3,f4,bv,LTN]
 have Sy6:=zdjy p2 p1 [(0:Int),(0:Int),(0:Int),(0:Int),(0:Int),(0:Int),(0:Int),(0:Int)] y1 (List.replicate 64 (0:Int)) (0:Int) y6 hy6
 unfold zcfw at Sy6
 refine Sy6 _ τ.next (τ.next + 1) (τ.next + 2) (τ.next + 3) (by simp only [ak,aq]; omega) (by simp only [TT,reduceAdd,reduceLT]; done) (by simp only [ak]; omega) (by simp only [TT,reduceAdd,reduceLT]; done) (by simp only [ak]; omega) (by simp only [TT,reduceAdd,reduceLT]; rfl) (by simp only [ak]; omega) (by simp only [aq]; omega) (by simp only [TT,reduceAdd]; done) (by simp only [ak]; omega) (by omega) (by omega) (by omega) _ ?_
 intro frq7 tkq7 τq7 g2q7 g4q7 g5q7 g6q7 htq7 hcq7
 have hcq7:=dp (n:=τ.next + 4) hcq7 (by simp only [ak]; omega)
 try simp only [List.take_zero] at htq7
 try simp only [TT,reduceAdd,reduceLT] at hcq7
 obtain ⟨y8,hy8,h⟩:=ob h
 simp only [TT,reduceEqDiff,reduceAdd,reduceLT,g2q7,g4q7,g5q7,g6q7,hcq7]
 have Sy8:=zdjz p1 [(0:Int),(0:Int),(0:Int),(0:Int),(0:Int),(0:Int),(0:Int),(0:Int)] y1 y6 (16:Int) y8 hy8
 unfold zcfx at Sy8
 refine Sy8 _ τ.next (τ.next + 1) (τ.next + 2) (τ.next + 3) (by simp only [ak,aq]; omega) (by simp only [TT,reduceAdd,reduceLT]; done) (by simp only [ak]; omega) (by simp only [TT,reduceAdd,reduceLT]; done) (by simp only [ak]; omega) (by simp only [TT,reduceAdd,reduceLT]; done) (by simp only [ak]; omega) (by simp only [aq]; omega) (by simp only [TT,reduceAdd]; done) (by simp only [ak]; omega) (by omega) (by omega) (by omega) _ ?_
 intro frq9 tkq9 τq9 g2q9 g4q9 g5q9 g6q9 htq9 hcq9
 have hcq9:=dp (n:=τ.next + 4) hcq9 (by simp only [ak]; omega)
 try simp only [List.take_zero] at htq9
 try simp only [TT,reduceAdd,reduceLT] at hcq9
 obtain ⟨c10,h⟩:=ifS h
 have f11:8 ≤ p1.length:=Nat.le_of_eq (Eq.symm c10)
 have f12:List.take 8 (List.map (TV.int .u32) p1) = List.map (TV.int .u32) p1:=zb9f c10
 obtain ⟨c13,h⟩:=ifS h
 have f14:(List.map (TV.int .u32) p1 = []) = False:=zb7d c13 (by decide)
 have f15:p1.length ≤ 8:=Nat.le_of_eq c13
 obtain ⟨y16,hy16,h⟩:=ob h
 simp only [TT,reduceEqDiff,reduceAdd,reduceLT,reduceCtorEq,hl,bv,g2q9,g4q9,g5q9,g6q9,hcq9,c10,f12,f14,LTN]
 have Sy16:=zdj0 p1 [(0:Int),(0:Int),(0:Int),(0:Int),(0:Int),(0:Int),(0:Int),(0:Int)] y8 y1 p1 (0:Int) y16 hy16
 unfold zcfy at Sy16
 refine Sy16 _ τ.next (τ.next + 1) (τ.next + 2) (τ.next + 3) (τ.next + 4) (by simp only [ak,aq]; omega) (by simp only [TT,reduceAdd,reduceLT]; done) (by simp only [ak]; omega) (by simp only [TT,reduceAdd,reduceLT]; done) (by simp only [ak]; omega) (by simp only [TT,reduceAdd,reduceLT]; done) (by simp only [ak]; omega) (by simp only [TT,reduceAdd,reduceLT]; done) (by simp only [ak]; omega) (by simp only [TT,reduceAdd]; done) (by simp only [ak]; omega) (by simp only [aq]; omega) (by omega) (by omega) (by omega) (by omega) _ ?_
 intro frq17 tkq17 τq17 g2q17 g4q17 g11q17 htq17 hcq17
 have hcq17:=dp (n:=τ.next + 5) hcq17 (by simp only [ak]; omega)
 try simp only [List.take_zero] at htq17
 try simp only [TT,reduceAdd] at hcq17
 obtain ⟨y18,hy18,h⟩:=ob h
 simp only [TT,reduceEqDiff,reduceAdd,reduceLT,g2q17,g4q17,g11q17,hcq17]
 have Sy18:=zdj1 [(0:Int),(0:Int),(0:Int),(0:Int),(0:Int),(0:Int),(0:Int),(0:Int)] y16 p1 (0:Int) y18 hy18
 unfold zcfz at Sy18
 refine Sy18 _ τ.next (τ.next + 1) (τ.next + 4) (by simp only [ak,aq]; omega) (by simp only [TT,reduceAdd,reduceLT]; done) (by simp only [ak]; omega) (by assumption) (by simp only [TT,reduceAdd,reduceLT]; done) (by simp only [ak]; omega) (by simp only [TT,reduceAdd]; done) (by simp only [ak]; omega) (by omega) (by omega) _ ?_
 intro frq19 tkq19 τq19 g2q19 g4q19 htq19 hcq19
 have hcq19:=dp (n:=τ.next + 5) hcq19 (by simp only [ak]; omega)
 try simp only [List.take_zero] at htq19
 try simp only [TT,reduceAdd,reduceLT] at hcq19
 obtain ⟨c20,h⟩:=ifS h
 have f21:8 ≤ y18.length:=Nat.le_of_eq (Eq.symm c20)
 have f22:List.take 8 (List.map (TV.int .u32) y18) = List.map (TV.int .u32) y18:=zb9f c20
 obtain ⟨c23,h⟩:=ifS h
 have f24:(List.map (TV.int .u32) y18 = []) = False:=zb7d c23 (by decide)
 have f25:y18.length ≤ 8:=Nat.le_of_eq c23
 injection h with h; subst h
 simp only [TT,reduceEqDiff,reduceAdd,reduceLT,reduceCtorEq,hl,bv,g2q19,g4q19,hcq19,c20,f22,f24,LTN]
 exact hK
theorem zde0 (p1:(List Int)) (p2:ByteArray) (r:(List Int)) (h:zb76 p1 p2 = some r) (lk:Bool) (d:Option Nat) (K:ap) (fr:TF) (tk:TK) (τ:TH) (hl:τ.lock ≤ τ.next):du G lk zb8a [.agg (List.map (TV.int .u32) p1),.str p2] d K fr tk τ = K (fp fr d (.agg (List.map (TV.int .u32) r))) tk τ :=
 au (zda2 p1 p2 r h τ  hl) (zda2 p1 p2 r h (τ.locked τ.next)  (Nat.le_refl _) ) (by simp only [TT,LTN])
end
end Go.Proofs.Ytjgpklmkdkkooaa
