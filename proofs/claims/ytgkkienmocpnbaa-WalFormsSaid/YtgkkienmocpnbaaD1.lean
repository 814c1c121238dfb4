import Derived.Test.YtgkkienmocpnbaaM17
set_option linter.unusedVariables false
set_option linter.unusedSimpArgs false
set_option linter.unusedSectionVars false
open Nat (reduceEqDiff reduceAdd reduceMul reduceLT reduceLeDiff reduceSub)
open Int (reduceToNat reduceNe reduceEq reduceNeg reduceLE)
namespace Go.Proofs.Ytgkkienmocpnbaa
open Go Go.RowKit Sh Ic
noncomputable section
def uv :Option (List Int) :=
 some [(1779033703:Int),(3144134277:Int),(1013904242:Int),(2773480762:Int),(1359893119:Int),(2600822924:Int),(528734635:Int),(1541459225:Int)]
theorem zbzp  (r:(List Int)) (h:uv  = some r) (τ:TH) (hl:τ.lock ≤ τ.next):Ru G qc [] τ (.agg (List.map (TV.int .u32) r)) τ:=by
 refine jn fun K hK => ?_
 rw [cb zcez (Nat.le_of_ble_eq_true rfl)]
 unfold uv at h
 injection h with h; subst h
 simp -implicitDefEqProofs only [zcem,TT,Ic.t,ci,reduceEqDiff,reduceIte,reduceAdd,reduceMul,reduceLT,reduceLeDiff,reduceSub,reduceCtorEq,reduceEq,reduceNe,reduceToNat,Int.reduceLT,reduceLE,reduceNeg,hl,CL,LTN]
 exact hK
theorem zb8k  (r:(List Int)) (h:uv  = some r) (lk:Bool) (d:Option Nat) (K:ak) (fr:TF) (tk:TK) (τ:TH) (hl:τ.lock ≤ τ.next):d9 G lk qc [] d K fr tk τ = K (dh fr d (.agg (List.map (TV.int .u32) r))) tk τ :=
 b9 (zbzp  r h τ  hl) (zbzp  r h (τ.locked τ.next)  (Nat.le_refl _) ) (by simp -implicitDefEqProofs only [TT,Ic.t,ci,reduceEqDiff,reduceIte,reduceAdd,reduceLT,reduceCtorEq,reduceToNat,hl,CL,LTN])
def lc :Option (List Int) :=
 some [(1116352408:Int),(1899447441:Int),(3049323471:Int),(3921009573:Int),(961987163:Int),(1508970993:Int),(2453635748:Int),(2870763221:Int),(3624381080:Int),(310598401:Int),(607225278:Int),(1426881987:Int),(1925078388:Int),(2162078206:Int),(2614888103:Int),(3248222580:Int),(3835390401:Int),(4022224774:Int),(264347078:Int),(604807628:Int),(770255983:Int),(1249150122:Int),(1555081692:Int),(1996064986:Int),(2554220882:Int),(2821834349:Int),(2952996808:Int),(3210313671:Int),(3336571891:Int),(3584528711:Int),(113926993:Int),(338241895:Int),(666307205:Int),(773529912:Int),(1294757372:Int),(1396182291:Int),(1695183700:Int),(1986661051:Int),(2177026350:Int),(2456956037:Int),(2730485921:Int),(2820302411:Int),(3259730800:Int),(3345764771:Int),(3516065817:Int),(3600352804:Int),(4094571909:Int),(275423344:Int),(430227734:Int),(506948616:Int),(659060556:Int),(883997877:Int),(958139571:Int),(1322822218:Int),(1537002063:Int),(1747873779:Int),(1955562222:Int),(2024104815:Int),(2227730452:Int),(2361852424:Int),(2428436474:Int),(2756734187:Int),(3204031479:Int),(3329325298:Int)]
theorem yk  (r:(List Int)) (h:lc  = some r) (τ:TH) (hl:τ.lock ≤ τ.next):Ru G jq [] τ (.agg (List.map (TV.int .u32) r)) τ:=by
 refine jn fun K hK => ?_
 rw [cb zb88 (Nat.le_of_ble_eq_true rfl)]
 unfold lc at h
 injection h with h; subst h
 simp -implicitDefEqProofs only [zb9d,TT,Ic.t,ci,reduceEqDiff,reduceIte,reduceAdd,reduceMul,reduceLT,reduceLeDiff,reduceSub,reduceCtorEq,reduceEq,reduceNe,reduceToNat,Int.reduceLT,reduceLE,reduceNeg,hl,CL,LTN]
 exact hK
theorem zca4  (r:(List Int)) (h:lc  = some r) (lk:Bool) (d:Option Nat) (K:ak) (fr:TF) (tk:TK) (τ:TH) (hl:τ.lock ≤ τ.next):d9 G lk jq [] d K fr tk τ = K (dh fr d (.agg (List.map (TV.int .u32) r))) tk τ :=
 b9 (yk  r h τ  hl) (yk  r h (τ.locked τ.next)  (Nat.le_refl _) ) (by simp -implicitDefEqProofs only [TT,Ic.t,ci,reduceEqDiff,reduceIte,reduceAdd,reduceLT,reduceCtorEq,reduceToNat,hl,CL,LTN])
def n9 (p1:ByteArray):Option Int :=
 ixB p1 (0:Int) >>= fun b1 =>
 ixB p1 (1:Int) >>= fun b3 =>
 ixB p1 (2:Int) >>= fun b5 =>
 ixB p1 (3:Int) >>= fun b7 =>
 some (IntKind.u32.wrap ((BitVec.ofInt IntKind.u32.bits (IntKind.u32.wrap ((BitVec.ofInt IntKind.u32.bits (IntKind.u32.wrap ((BitVec.ofInt IntKind.u32.bits (IntKind.u32.wrap ((IntKind.u32.wrap b1) * 2 ^ (Nat.min 24 IntKind.u32.bits))) ||| BitVec.ofInt IntKind.u32.bits (IntKind.u32.wrap ((IntKind.u32.wrap b3) * 2 ^ (Nat.min 16 IntKind.u32.bits)))).toNat:Int)) ||| BitVec.ofInt IntKind.u32.bits (IntKind.u32.wrap ((IntKind.u32.wrap b5) * 2 ^ (Nat.min 8 IntKind.u32.bits)))).toNat:Int)) ||| BitVec.ofInt IntKind.u32.bits (IntKind.u32.wrap b7)).toNat:Int)) >>= fun x9 =>
 some x9
theorem zbz6 (p1:ByteArray) (r:Int) (h:n9 p1 = some r) (τ:TH) (hl:τ.lock ≤ τ.next):Ru G ot [.str p1] τ (.int .u32 r) τ:=by
 refine jn fun K hK => ?_
 rw [cb zb7m (Nat.le_of_ble_eq_true rfl)]
 unfold n9 at h
 obtain ⟨b1,hb1,h⟩:=ob h
 have f2:=pd hb1
 try simp only [CL,MC,reduceToNat] at f2
 obtain ⟨b3,hb3,h⟩:=ob h
 have f4:=pd hb3
 try simp only [CL,MC,reduceToNat] at f4
 obtain ⟨b5,hb5,h⟩:=ob h
 have f6:=pd hb5
 try simp only [CL,MC,reduceToNat] at f6
 obtain ⟨b7,hb7,h⟩:=ob h
 have f8:=pd hb7
 try simp only [CL,MC,reduceToNat] at f8
 obtain ⟨x9,hx9,h⟩:=ob h
 have f10:=Option.some.inj hx9
 injection h with h; subst h
 simp -implicitDefEqProofs only [zb7g,TT,Ic.t,ci,reduceEqDiff,reduceIte,reduceAdd,reduceMul,reduceLT,reduceLeDiff,reduceSub,reduceCtorEq,reduceEq,reduceNe,reduceToNat,Int.reduceLT,reduceLE,reduceNeg,hl,f2.1,f2.2.1,f2.2.2,f4.1,f4.2.1,f4.2.2,f6.1,f6.2.1,f6.2.2,f8.1,f8.2.1,f8.2.2,f10,CL,LTN]
 exact hK
theorem zb8z (p1:ByteArray) (r:Int) (h:n9 p1 = some r) (lk:Bool) (d:Option Nat) (K:ak) (fr:TF) (tk:TK) (τ:TH) (hl:τ.lock ≤ τ.next):d9 G lk ot [.str p1] d K fr tk τ = K (dh fr d (.int .u32 r)) tk τ :=
 b9 (zbz6 p1 r h τ  hl) (zbz6 p1 r h (τ.locked τ.next)  (Nat.le_refl _) ) (by simp -implicitDefEqProofs only [TT,Ic.t,ci,reduceEqDiff,reduceIte,reduceAdd,reduceLT,reduceCtorEq,reduceToNat,hl,CL,LTN])
def d6 (p1:Int) (p2:Int):Option Int :=
 some (IntKind.u64.wrap ((BitVec.ofInt IntKind.u64.bits (IntKind.u64.wrap p2) &&& BitVec.ofInt IntKind.u64.bits (31:Int)).toNat:Int)) >>= fun x1 =>
 if ¬ x1 < 0 then
  if ¬ (IntKind.u64.wrap ((32:Int) - x1)) < 0 then
   some (IntKind.u32.wrap ((BitVec.ofInt IntKind.u32.bits (IntKind.u32.wrap (p1 * 2 ^ (Nat.min x1.toNat IntKind.u32.bits))) ||| BitVec.ofInt IntKind.u32.bits (Int.fdiv p1 (2 ^ (Nat.min (IntKind.u64.wrap ((32:Int) - x1)).toNat IntKind.u32.bits)))).toNat:Int)) >>= fun x5 =>
   some x5
  else
   none
 else
  none
theorem ma (p1:Int) (p2:Int) (r:Int) (h:d6 p1 p2 = some r) (τ:TH) (hl:τ.lock ≤ τ.next):Ru G cy [.int .u32 p1,.int .i64 p2] τ (.int .u32 r) τ:=by
 refine jn fun K hK => ?_
 rw [cb zcee (Nat.le_of_ble_eq_true rfl)]
 unfold d6 at h
 obtain ⟨x1,hx1,h⟩:=ob h
 have f2:=Option.some.inj hx1
 obtain ⟨c3,h⟩:=ifS h
 obtain ⟨c4,h⟩:=ifS h
 obtain ⟨x5,hx5,h⟩:=ob h
 have f6:=Option.some.inj hx5
 injection h with h; subst h
 simp -implicitDefEqProofs only [zcec,TT,Ic.t,ci,reduceEqDiff,reduceIte,reduceAdd,reduceLT,reduceCtorEq,reduceToNat,hl,f2,c3,c4,f6,CL,LTN]
 exact hK
theorem vq (p1:Int) (p2:Int) (r:Int) (h:d6 p1 p2 = some r) (lk:Bool) (d:Option Nat) (K:ak) (fr:TF) (tk:TK) (τ:TH) (hl:τ.lock ≤ τ.next):d9 G lk cy [.int .u32 p1,.int .i64 p2] d K fr tk τ = K (dh fr d (.int .u32 r)) tk τ :=
 b9 (ma p1 p2 r h τ  hl) (ma p1 p2 r h (τ.locked τ.next)  (Nat.le_refl _) ) (by simp -implicitDefEqProofs only [TT,Ic.t,ci,reduceEqDiff,reduceIte,reduceAdd,reduceLT,reduceCtorEq,reduceToNat,hl,CL,LTN])
def dk (p1:Int) (p2:Int):Option Int :=
 d6 p1 (IntKind.i64.wrap (0 - p2)) >>= fun y1 =>
 some y1
theorem zbzq (p1:Int) (p2:Int) (r:Int) (h:dk p1 p2 = some r) (τ:TH) (hl:τ.lock ≤ τ.next):Ru G du [.int .u32 p1,.int .i64 p2] τ (.int .u32 r) τ:=by
 refine jn fun K hK => ?_
 rw [cb zce0 (Nat.le_of_ble_eq_true rfl)]
 unfold dk at h
 obtain ⟨y1,hy1,h⟩:=ob h
 have k2:=vq p1 (IntKind.i64.wrap (0 - p2)) _ hy1
 try simp only [CL,MC,reduceToNat] at k2
 injection h with h; subst h
 simp -implicitDefEqProofs only [zcen,TT,Ic.t,ci,reduceEqDiff,reduceIte,reduceAdd,reduceLT,reduceCtorEq,reduceToNat,hl,k2,CL,LTN]
 exact hK
theorem ft (p1:Int) (p2:Int) (r:Int) (h:dk p1 p2 = some r) (lk:Bool) (d:Option Nat) (K:ak) (fr:TF) (tk:TK) (τ:TH) (hl:τ.lock ≤ τ.next):d9 G lk du [.int .u32 p1,.int .i64 p2] d K fr tk τ = K (dh fr d (.int .u32 r)) tk τ :=
 b9 (zbzq p1 p2 r h τ  hl) (zbzq p1 p2 r h (τ.locked τ.next)  (Nat.le_refl _) ) (by simp -implicitDefEqProofs only [TT,Ic.t,ci,reduceEqDiff,reduceIte,reduceAdd,reduceLT,reduceCtorEq,reduceToNat,hl,CL,LTN])
def bn (v0:(List Int)) (v1:ByteArray) (v2:(List Int)) (v3:(List Int)) (v4:Int):Option (LS ((List Int) × Int) ((List Int))) :=
 if v4 < (64:Int) then
  if v4 < (16:Int) then
   if 0 ≤ (IntKind.i64.wrap ((4:Int) * v4)) ∧ (IntKind.i64.wrap ((4:Int) * v4)) ≤ (v1.size:Int) then
    n9 (v1.extract ((IntKind.i64.wrap ((4:Int) * v4)).toNat) v1.size) >>= fun y4 =>
    if 0 ≤ v4 ∧ v4 < ((64:Nat):Int) then
     if v4.toNat + 1 ≤ v3.length then
      some (.nx ((v3.set v4.toNat y4),(IntKind.i64.wrap (v4 + (1:Int)))))
     else
      none
    else
     none
   else
    none
  else
  if 0 ≤ (IntKind.i64.wrap (v4 - (15:Int))) ∧ (IntKind.i64.wrap (v4 - (15:Int))) < ((64:Nat):Int) then
   ixL v3 (IntKind.i64.wrap (v4 - (15:Int))) >>= fun y10 =>
   if 0 ≤ (IntKind.i64.wrap (v4 - (2:Int))) ∧ (IntKind.i64.wrap (v4 - (2:Int))) < ((64:Nat):Int) then
    ixL v3 (IntKind.i64.wrap (v4 - (2:Int))) >>= fun y13 =>
    if 0 ≤ (IntKind.i64.wrap (v4 - (16:Int))) ∧ (IntKind.i64.wrap (v4 - (16:Int))) < ((64:Nat):Int) then
     ixL v3 (IntKind.i64.wrap (v4 - (16:Int))) >>= fun y16 =>
     if 0 ≤ (IntKind.i64.wrap (v4 - (7:Int))) ∧ (IntKind.i64.wrap (v4 - (7:Int))) < ((64:Nat):Int) then
      ixL v3 (IntKind.i64.wrap (v4 - (7:Int))) >>= fun y19 =>
      dk y10 (7:Int) >>= fun y21 =>
      dk y10 (18:Int) >>= fun y23 =>
      dk y13 (17:Int) >>= fun y25 =>
      dk y13 (19:Int) >>= fun y27 =>
      if 0 ≤ v4 ∧ v4 < ((64:Nat):Int) then
       if v4.toNat + 1 ≤ v3.length then
        some (.nx ((v3.set v4.toNat (IntKind.u32.wrap ((IntKind.u32.wrap ((IntKind.u32.wrap (y16 + (IntKind.u32.wrap ((BitVec.ofInt IntKind.u32.bits (IntKind.u32.wrap ((BitVec.ofInt IntKind.u32.bits y21 ^^^ BitVec.ofInt IntKind.u32.bits y23).toNat:Int)) ^^^ BitVec.ofInt IntKind.u32.bits (Int.fdiv y10 (2 ^ (Nat.min 3 IntKind.u32.bits)))).toNat:Int)))) + y19)) + (IntKind.u32.wrap ((BitVec.ofInt IntKind.u32.bits (IntKind.u32.wrap ((BitVec.ofInt IntKind.u32.bits y25 ^^^ BitVec.ofInt IntKind.u32.bits y27).toNat:Int)) ^^^ BitVec.ofInt IntKind.u32.bits (Int.fdiv y13 (2 ^ (Nat.min 10 IntKind.u32.bits)))).toNat:Int))))),(IntKind.i64.wrap (v4 + (1:Int)))))
       else
        none
      else
       none
     else
      none
    else
     none
   else
    none
  else
   none
 else
 some (.dn v3)
def ep (v0:(List Int)) (v1:ByteArray) (v2:(List Int)) (v3:(List Int)) (v4:Int):Option ((List Int)):=lf (fun st => bn v0 v1 v2 st.1 st.2) (v3,v4)
theorem la (v0:(List Int)) (v1:ByteArray) (v2:(List Int)) (v3:(List Int)) (v4:Int):ep v0 v1 v2 v3 v4 = bn v0 v1 v2 v3 v4 >>= LS.go (fun st => ep v0 v1 v2 st.1 st.2):=dj (fun st => bn v0 v1 v2 st.1 st.2) (v3,v4)
def gh (v0:(List Int)) (v1:ByteArray) (v2:(List Int)) (v3:(List Int)) (v4:Int) (r:(List Int)):Prop:=∀ (τ:TH) (o0:Nat) (o1:Nat) (o2:Nat) (hl:τ.lock ≤ τ.next) (ha0:τ.at o0 = some ⟨ew,List.map (TV.int .u32) v0⟩) (hi0:o0 < τ.next) (ha1:τ.at o1 = some ⟨bd,List.map (TV.int .u32) v2⟩) (hi1:o1 < τ.next) (ha2:τ.at o2 = some ⟨bd,List.map (TV.int .u32) v3⟩) (hi2:o2 < τ.next) (hw2:τ.lock ≤ o2) (hn0_2:o0 ≠ o2) (hn1_2:o1 ≠ o2) (Q:TEx → ak) (hQ0:∀ (fr:TF) (tk2:TK) (τ2:TH),lkp fr 0 = .ptr o0 0 → lkp fr 2 = .ptr o1 0 → lkp fr 6 = .ptr o2 0 → tk2.take 0 = [] → τ2.cut τ.next = (τ.put o2 ⟨bd,List.map (TV.int .u32) r⟩) → Q (.exit 0) fr tk2 τ2) ,tW G (.loop [0,1,2,6,23] ji) Q [(0,.ptr o0 0),(1,.str v1),(2,.ptr o1 0),(6,.ptr o2 0),(23,.int .i64 v4)] [] τ
theorem zcda (v0:(List Int)) (v1:ByteArray) (v2:(List Int)) (v3:(List Int)) (v4:Int) (r:(List Int)) (h:ep v0 v1 v2 v3 v4 = some r):gh v0 v1 v2 v3 v4 r:=by
 refine ct (f:=fun st => bn v0 v1 v2 st.1 st.2) (P:=fun st r => ∀ (v3:(List Int)) (v4:Int),(v3,v4) = st → gh v0 v1 v2 v3 v4 r) ?_ h v3 v4 rfl
 clear h r v4 v3
 intro st o h r ih v3 v4 hst τ o0 o1 o2  hl ha0 hi0 ha1 hi1 ha2 hi2 hw2 hn0_2 hn1_2 Q hQ0
 subst hst
 have h:bn v0 v1 v2 v3 v4 = some o:=h
 unfold bn at h
 refine qp fun LQ hn hr he => ?_
 by_cases c1:v4 < (64:Int)
 · rw [if_pos c1] at h
   by_cases c2:v4 < (16:Int)
   · rw [if_pos c2] at h
     obtain ⟨c3,h⟩:=ifS h
     obtain ⟨y4,hy4,h⟩:=ob h
     have k5:=zb8z (v1.extract ((IntKind.i64.wrap ((4:Int) * v4)).toNat) v1.size) _ hy4
     try simp only [CL,MC,reduceToNat] at k5
     obtain ⟨c6,h⟩:=ifS h
     obtain ⟨c7,h⟩:=ifS h
     have f8:(List.map (TV.int .u32) v3).set v4.toNat (.int .u32 y4) = List.map (TV.int .u32) (v3.set v4.toNat y4):=zbj4 (enc:=(TV.int .u32)) _ _ _
     injection h with h; subst h
     have ih:=ih (v3.set v4.toNat y4) (IntKind.i64.wrap (v4 + (1:Int))) rfl
     unfold gh at ih
     simp -implicitDefEqProofs only [ji,da,TT,Ic.t,ci,reduceEqDiff,reduceIte,reduceAdd,reduceMul,reduceLT,reduceLeDiff,reduceSub,reduceCtorEq,reduceEq,reduceNe,reduceToNat,Int.reduceLT,reduceLE,reduceNeg,hl,ha0,hi0,ha1,hi1,ha2,hi2,hw2,nq hn0_2,nq hn1_2,c1,c2,c3,k5,c6,c7,f8,CL,LTN]
     rw [hn]
     simp -implicitDefEqProofs only [TT,Ic.t,ci,reduceEqDiff,reduceIte,reduceAdd,reduceMul,reduceLT,reduceLeDiff,reduceSub,reduceCtorEq,reduceEq,reduceNe,reduceToNat,Int.reduceLT,reduceLE,reduceNeg,hl,ha0,hi0,ha1,hi1,ha2,hi2,hw2,nq hn0_2,nq hn1_2,c1,c2,c3,k5,c6,c7,f8,CL,LTN]
     exact ih  (τ.put o2 ⟨bd,List.map (TV.int .u32) (v3.set v4.toNat y4)⟩) o0 o1 o2   (by first | assumption | (simp only [aa,af]; assumption)) (by simp -implicitDefEqProofs only [TT,Ic.t,ci,reduceEqDiff,reduceIte,reduceAdd,reduceMul,reduceLT,reduceLeDiff,reduceSub,reduceCtorEq,reduceEq,reduceNe,reduceToNat,Int.reduceLT,reduceLE,reduceNeg,hl,ha0,hi0,ha1,hi1,ha2,hi2,hw2,nq hn0_2,nq hn1_2,c1,c2,c3,k5,c6,c7,f8,CL,LTN]) (by first | assumption | (simp only [aa,af]; assumption)) (by simp -implicitDefEqProofs only [TT,Ic.t,ci,reduceEqDiff,reduceIte,reduceAdd,reduceMul,reduceLT,reduceLeDiff,reduceSub,reduceCtorEq,reduceEq,reduceNe,reduceToNat,Int.reduceLT,reduceLE,reduceNeg,hl,ha0,hi0,ha1,hi1,ha2,hi2,hw2,nq hn0_2,nq hn1_2,c1,c2,c3,k5,c6,c7,f8,CL,LTN]) (by first | assumption | (simp only [aa,af]; assumption)) (by simp -implicitDefEqProofs only [TT,Ic.t,ci,reduceEqDiff,reduceIte,reduceAdd,reduceMul,reduceLT,reduceLeDiff,reduceSub,reduceCtorEq,reduceEq,reduceNe,reduceToNat,Int.reduceLT,reduceLE,reduceNeg,hl,ha0,hi0,ha1,hi1,ha2,hi2,hw2,nq hn0_2,nq hn1_2,c1,c2,c3,k5,c6,c7,f8,CL,LTN]) (by first | assumption | (simp only [aa,af]; assumption)) (by first | assumption | (simp only [aa,af]; assumption)) hn0_2 hn1_2 Q (fun fr tk2 τ2 g0 g1 g2 ht hτ => hQ0 fr tk2 τ2 g0 g1 g2 ht (by first | exact hτ | simpa only [aa,zbbl,hl,ha0,hi0,ha1,hi1,ha2,hi2,hw2,nq hn0_2,nq hn1_2] using hτ))
   rw [if_neg c2] at h
   obtain ⟨c9,h⟩:=ifS h
   obtain ⟨y10,hy10,h⟩:=ob h
   have f11:=au hy10
   have f11a:=(f11.2.2 (TV.int .u32)).1
   have f11b:=(f11.2.2 (TV.int .u32)).2
   try simp only [CL,MC,reduceToNat] at f11 f11a f11b
   obtain ⟨c12,h⟩:=ifS h
   obtain ⟨y13,hy13,h⟩:=ob h
   have f14:=au hy13
   have f14a:=(f14.2.2 (TV.int .u32)).1
   have f14b:=(f14.2.2 (TV.int .u32)).2
   try simp only [CL,MC,reduceToNat] at f14 f14a f14b
   obtain ⟨c15,h⟩:=ifS h
   obtain ⟨y16,hy16,h⟩:=ob h
   have f17:=au hy16
   have f17a:=(f17.2.2 (TV.int .u32)).1
   have f17b:=(f17.2.2 (TV.int .u32)).2
   try simp only [CL,MC,reduceToNat] at f17 f17a f17b
   obtain ⟨c18,h⟩:=ifS h
   obtain ⟨y19,hy19,h⟩:=ob h
   have f20:=au hy19
   have f20a:=(f20.2.2 (TV.int .u32)).1
   have f20b:=(f20.2.2 (TV.int .u32)).2
   try simp only [CL,MC,reduceToNat] at f20 f20a f20b
   obtain ⟨y21,hy21,h⟩:=ob h
   have k22:=ft y10 (7:Int) _ hy21
   try simp only [CL,MC,reduceToNat] at k22
   obtain ⟨y23,hy23,h⟩:=ob h
   have k24:=ft y10 (18:Int) _ hy23
   try simp only [CL,MC,reduceToNat] at k24
   obtain ⟨y25,hy25,h⟩:=ob h
   have k26:=ft y13 (17:Int) _ hy25
   try simp only [CL,MC,reduceToNat] at k26
   obtain ⟨y27,hy27,h⟩:=ob h
   have k28:=ft y13 (19:Int) _ hy27
   try simp only [CL,MC,reduceToNat] at k28
   obtain ⟨c29,h⟩:=ifS h
   obtain ⟨c30,h⟩:=ifS h
   have f31:(List.map (TV.int .u32) v3).set v4.toNat (.int .u32 (IntKind.u32.wrap ((IntKind.u32.wrap ((IntKind.u32.wrap (y16 + (IntKind.u32.wrap ((BitVec.ofInt IntKind.u32.bits (IntKind.u32.wrap ((BitVec.ofInt IntKind.u32.bits y21 ^^^ BitVec.ofInt IntKind.u32.bits y23).toNat:Int)) ^^^ BitVec.ofInt IntKind.u32.bits (Int.fdiv y10 (2 ^ (Nat.min 3 IntKind.u32.bits)))).toNat:Int)))) + y19)) + (IntKind.u32.wrap ((BitVec.ofInt IntKind.u32.bits (IntKind.u32.wrap ((BitVec.ofInt IntKind.u32.bits y25 ^^^ BitVec.ofInt IntKind.u32.bits y27).toNat:Int)) ^^^ BitVec.ofInt IntKind.u32.bits (Int.fdiv y13 (2 ^ (Nat.min 10 IntKind.u32.bits)))).toNat:Int))))) = List.map (TV.int .u32) (v3.set v4.toNat (IntKind.u32.wrap ((IntKind.u32.wrap ((IntKind.u32.wrap (y16 + (IntKind.u32.wrap ((BitVec.ofInt IntKind.u32.bits (IntKind.u32.wrap ((BitVec.ofInt IntKind.u32.bits y21 ^^^ BitVec.ofInt IntKind.u32.bits y23).toNat:Int)) ^^^ BitVec.ofInt IntKind.u32.bits (Int.fdiv y10 (2 ^ (Nat.min 3 IntKind.u32.bits)))).toNat:Int)))) + y19)) + (IntKind.u32.wrap ((BitVec.ofInt IntKind.u32.bits (IntKind.u32.wrap ((BitVec.ofInt IntKind.u32.bits y25 ^^^ BitVec.ofInt IntKind.u32.bits y27).toNat:Int)) ^^^ BitVec.ofInt IntKind.u32.bits (Int.fdiv y13 (2 ^ (Nat.min 10 IntKind.u32.bits)))).toNat:Int))))):=zbj4 (enc:=(TV.int .u32)) _ _ _
   injection h with h; subst h
   have ih:=ih (v3.set v4.toNat (IntKind.u32.wrap ((IntKind.u32.wrap ((IntKind.u32.wrap (y16 + (IntKind.u32.wrap ((BitVec.ofInt IntKind.u32.bits (IntKind.u32.wrap ((BitVec.ofInt IntKind.u32.bits y21 ^^^ BitVec.ofInt IntKind.u32.bits y23).toNat:Int)) ^^^ BitVec.ofInt IntKind.u32.bits (Int.fdiv y10 (2 ^ (Nat.min 3 IntKind.u32.bits)))).toNat:Int)))) + y19)) + (IntKind.u32.wrap ((BitVec.ofInt IntKind.u32.bits (IntKind.u32.wrap ((BitVec.ofInt IntKind.u32.bits y25 ^^^ BitVec.ofInt IntKind.u32.bits y27).toNat:Int)) ^^^ BitVec.ofInt IntKind.u32.bits (Int.fdiv y13 (2 ^ (Nat.min 10 IntKind.u32.bits)))).toNat:Int))))) (IntKind.i64.wrap (v4 + (1:Int))) rfl
   unfold gh at ih
   simp -implicitDefEqProofs only [ji,da,TT,Ic.t,ci,reduceEqDiff,reduceIte,reduceAdd,reduceMul,reduceLT,reduceLeDiff,reduceSub,reduceCtorEq,reduceEq,reduceNe,reduceToNat,Int.reduceLT,reduceLE,reduceNeg,hl,ha0,hi0,ha1,hi1,ha2,hi2,hw2,nq hn0_2,nq hn1_2,c1,c2,c9,f11.1,f11.2.1,f11a,f11b,c12,f14.1,f14.2.1,f14a,f14b,c15,f17.1,f17.2.1,f17a,f17b,c18,f20.1,f20.2.1,f20a,f20b,k22,k24,k26,k28,c29,c30,f31,CL,LTN]
   rw [hn]
   simp -implicitDefEqProofs only [TT,Ic.t,ci,reduceEqDiff,reduceIte,reduceAdd,reduceMul,reduceLT,reduceLeDiff,reduceSub,reduceCtorEq,reduceEq,reduceNe,reduceToNat,Int.reduceLT,reduceLE,reduceNeg,hl,ha0,hi0,ha1,hi1,ha2,hi2,hw2,nq hn0_2,nq hn1_2,c1,c2,c9,f11.1,f11.2.1,f11a,f11b,c12,f14.1,f14.2.1,f14a,f14b,c15,f17.1,f17.2.1,f17a,f17b,c18,f20.1,f20.2.1,f20a,f20b,k22,k24,k26,k28,c29,c30,f31,CL,LTN]
   exact ih  (τ.put o2 ⟨bd,List.map (TV.int .u32) (v3.set v4.toNat (IntKind.u32.wrap ((IntKind.u32.wrap ((IntKind.u32.wrap (y16 + (IntKind.u32.wrap ((BitVec.ofInt IntKind.u32.bits (IntKind.u32.wrap ((BitVec.ofInt IntKind.u32.bits y21 ^^^ BitVec.ofInt IntKind.u32.bits y23).toNat:Int)) ^^^ BitVec.ofInt IntKind.u32.bits (Int.fdiv y10 (2 ^ (Nat.min 3 IntKind.u32.bits)))).toNat:Int)))) + y19)) + (IntKind.u32.wrap ((BitVec.ofInt IntKind.u32.bits (IntKind.u32.wrap ((BitVec.ofInt IntKind.u32.bits y25 ^^^ BitVec.ofInt IntKind.u32.bits y27).toNat:Int)) ^^^ BitVec.ofInt IntKind.u32.bits (Int.fdiv y13 (2 ^ (Nat.min 10 IntKind.u32.bits)))).toNat:Int)))))⟩) o0 o1 o2   (by first | assumption | (simp only [aa,af]; assumption)) (by simp -implicitDefEqProofs only [TT,Ic.t,ci,reduceEqDiff,reduceIte,reduceAdd,reduceMul,reduceLT,reduceLeDiff,reduceSub,reduceCtorEq,reduceEq,reduceNe,reduceToNat,Int.reduceLT,reduceLE,reduceNeg,hl,ha0,hi0,ha1,hi1,ha2,hi2,hw2,nq hn0_2,nq hn1_2,c1,c2,c9,f11.1,f11.2.1,f11a,f11b,c12,f14.1,f14.2.1,f14a,f14b,c15,f17.1,f17.2.1,f17a,f17b,c18,f20.1,f20.2.1,f20a,f20b,k22,k24,k26,k28,c29,c30,f31,CL,LTN]) (by first | assumption | (simp only [aa,af]; assumption)) (by simp -implicitDefEqProofs only [TT,Ic.t,ci,reduceEqDiff,reduceIte,reduceAdd,reduceMul,reduceLT,reduceLeDiff,reduceSub,reduceCtorEq,reduceEq,reduceNe,reduceToNat,Int.reduceLT,reduceLE,reduceNeg,hl,ha0,hi0,ha1,hi1,ha2,hi2,hw2,nq hn0_2,nq hn1_2,c1,c2,c9,f11.1,f11.2.1,f11a,f11b,c12,f14.1,f14.2.1,f14a,f14b,c15,f17.1,f17.2.1,f17a,f17b,c18,f20.1,f20.2.1,f20a,f20b,k22,k24,k26,k28,c29,c30,f31,CL,LTN]) (by first | assumption | (simp only [aa,af]; assumption)) (by simp -implicitDefEqProofs only [TT,Ic.t,ci,reduceEqDiff,reduceIte,reduceAdd,reduceMul,reduceLT,reduceLeDiff,reduceSub,reduceCtorEq,reduceEq,reduceNe,reduceToNat,Int.reduceLT,reduceLE,reduceNeg,hl,ha0,hi0,ha1,hi1,ha2,hi2,hw2,nq hn0_2,nq hn1_2,c1,c2,c9,f11.1,f11.2.1,f11a,f11b,c12,f14.1,f14.2.1,f14a,f14b,c15,f17.1,f17.2.1,f17a,f17b,c18,f20.1,f20.2.1,f20a,f20b,k22,k24,k26,k28,c29,c30,f31,CL,LTN]) (by first | assumption | (simp only [aa,af]; assumption)) (by first | assumption | (simp only [aa,af]; assumption)) hn0_2 hn1_2 Q (fun fr tk2 τ2 g0 g1 g2 ht hτ => hQ0 fr tk2 τ2 g0 g1 g2 ht (by first | exact hτ | simpa only [aa,zbbl,hl,ha0,hi0,ha1,hi1,ha2,hi2,hw2,nq hn0_2,nq hn1_2] using hτ))
 rw [if_neg c1] at h
 injection h with h; subst h
 obtain rfl:_ = r:=ih
 simp -implicitDefEqProofs only [ji,da,TT,Ic.t,ci,reduceEqDiff,reduceIte,reduceAdd,reduceMul,reduceLT,reduceLeDiff,reduceSub,reduceCtorEq,reduceEq,reduceNe,reduceToNat,Int.reduceLT,reduceLE,reduceNeg,hl,ha0,hi0,ha1,hi1,ha2,hi2,hw2,nq hn0_2,nq hn1_2,he,hr,c1,CL,LTN]
 exact hQ0  _ _ _  (by first | rfl | (simp -implicitDefEqProofs only [TT,Ic.t,ci,reduceEqDiff,reduceIte,reduceAdd,reduceMul,reduceLT,reduceLeDiff,reduceSub,reduceCtorEq,reduceEq,reduceNe,reduceToNat,Int.reduceLT,reduceLE,reduceNeg,hl,ha0,hi0,ha1,hi1,ha2,hi2,hw2,nq hn0_2,nq hn1_2,c1,CL,LTN])) (by first | rfl | (simp -implicitDefEqProofs only [TT,Ic.t,ci,reduceEqDiff,reduceIte,reduceAdd,reduceMul,reduceLT,reduceLeDiff,reduceSub,reduceCtorEq,reduceEq,reduceNe,reduceToNat,Int.reduceLT,reduceLE,reduceNeg,hl,ha0,hi0,ha1,hi1,ha2,hi2,hw2,nq hn0_2,nq hn1_2,c1,CL,LTN])) (by first | rfl | (simp -implicitDefEqProofs only [TT,Ic.t,ci,reduceEqDiff,reduceIte,reduceAdd,reduceMul,reduceLT,reduceLeDiff,reduceSub,reduceCtorEq,reduceEq,reduceNe,reduceToNat,Int.reduceLT,reduceLE,reduceNeg,hl,ha0,hi0,ha1,hi1,ha2,hi2,hw2,nq hn0_2,nq hn1_2,c1,CL,LTN])) (by first | rfl | (simp -implicitDefEqProofs only [TT,Ic.t,ci,reduceEqDiff,reduceIte,reduceAdd,reduceMul,reduceLT,reduceLeDiff,reduceSub,reduceCtorEq,reduceEq,reduceNe,reduceToNat,Int.reduceLT,reduceLE,reduceNeg,hl,ha0,hi0,ha1,hi1,ha2,hi2,hw2,nq hn0_2,nq hn1_2,c1,CL,LTN])) (by first | exact f0 (Nat.le_refl _) | (simp -implicitDefEqProofs only [TT,Ic.t,ci,reduceEqDiff,reduceIte,reduceAdd,reduceMul,reduceLT,reduceLeDiff,reduceSub,reduceCtorEq,reduceEq,reduceNe,reduceToNat,Int.reduceLT,reduceLE,reduceNeg,hl,ha0,hi0,ha1,hi1,ha2,hi2,hw2,nq hn0_2,nq hn1_2,kr ha2,c1,CL,LTN]))
def cj (v0:(List Int)) (v1:(List Int)) (v2:(List Int)) (v3:Int) (v4:Int) (v5:Int) (v6:Int) (v7:Int) (v8:Int) (v9:Int) (v10:Int) (v11:Int):Option (LS (Int × Int × Int × Int × Int × Int × Int × Int × Int) (Int × Int × Int × Int × Int × Int × Int × Int)) :=
 if v11 < (64:Int) then
  if 0 ≤ v11 ∧ v11 < ((64:Nat):Int) then
   ixL v1 v11 >>= fun y3 =>
   ixL v2 v11 >>= fun y5 =>
   dk v7 (6:Int) >>= fun y7 =>
   dk v7 (11:Int) >>= fun y9 =>
   dk v7 (25:Int) >>= fun y11 =>
   some (IntKind.u32.wrap ((IntKind.u32.wrap ((IntKind.u32.wrap ((IntKind.u32.wrap (v10 + (IntKind.u32.wrap ((BitVec.ofInt IntKind.u32.bits (IntKind.u32.wrap ((BitVec.ofInt IntKind.u32.bits y7 ^^^ BitVec.ofInt IntKind.u32.bits y9).toNat:Int)) ^^^ BitVec.ofInt IntKind.u32.bits y11).toNat:Int)))) + (IntKind.u32.wrap ((BitVec.ofInt IntKind.u32.bits (IntKind.u32.wrap ((BitVec.ofInt IntKind.u32.bits v7 &&& BitVec.ofInt IntKind.u32.bits v8).toNat:Int)) ^^^ BitVec.ofInt IntKind.u32.bits (IntKind.u32.wrap ((BitVec.ofInt IntKind.u32.bits (zbqb .u32 v7) &&& BitVec.ofInt IntKind.u32.bits v9).toNat:Int))).toNat:Int)))) + y3)) + y5)) >>= fun x13 =>
   dk v3 (2:Int) >>= fun y15 =>
   dk v3 (13:Int) >>= fun y17 =>
   dk v3 (22:Int) >>= fun y19 =>
   some (IntKind.u32.wrap ((IntKind.u32.wrap ((BitVec.ofInt IntKind.u32.bits (IntKind.u32.wrap ((BitVec.ofInt IntKind.u32.bits y15 ^^^ BitVec.ofInt IntKind.u32.bits y17).toNat:Int)) ^^^ BitVec.ofInt IntKind.u32.bits y19).toNat:Int)) + (IntKind.u32.wrap ((BitVec.ofInt IntKind.u32.bits (IntKind.u32.wrap ((BitVec.ofInt IntKind.u32.bits (IntKind.u32.wrap ((BitVec.ofInt IntKind.u32.bits v3 &&& BitVec.ofInt IntKind.u32.bits v4).toNat:Int)) ^^^ BitVec.ofInt IntKind.u32.bits (IntKind.u32.wrap ((BitVec.ofInt IntKind.u32.bits v3 &&& BitVec.ofInt IntKind.u32.bits v5).toNat:Int))).toNat:Int)) ^^^ BitVec.ofInt IntKind.u32.bits (IntKind.u32.wrap ((BitVec.ofInt IntKind.u32.bits v4 &&& BitVec.ofInt IntKind.u32.bits v5).toNat:Int))).toNat:Int)))) >>= fun x21 =>
   some (.nx ((IntKind.u32.wrap (x13 + x21)),v3,v4,v5,(IntKind.u32.wrap (v6 + x13)),v7,v8,v9,(IntKind.i64.wrap (v11 + (1:Int)))))
  else
   none
 else
 some (.dn (v3,v4,v5,v6,v7,v8,v9,v10))
def ij (v0:(List Int)) (v1:(List Int)) (v2:(List Int)) (v3:Int) (v4:Int) (v5:Int) (v6:Int) (v7:Int) (v8:Int) (v9:Int) (v10:Int) (v11:Int):Option (Int × Int × Int × Int × Int × Int × Int × Int):=lf (fun st => cj v0 v1 v2 st.1 st.2.1 st.2.2.1 st.2.2.2.1 st.2.2.2.2.1 st.2.2.2.2.2.1 st.2.2.2.2.2.2.1 st.2.2.2.2.2.2.2.1 st.2.2.2.2.2.2.2.2) (v3,v4,v5,v6,v7,v8,v9,v10,v11)
theorem qt (v0:(List Int)) (v1:(List Int)) (v2:(List Int)) (v3:Int) (v4:Int) (v5:Int) (v6:Int) (v7:Int) (v8:Int) (v9:Int) (v10:Int) (v11:Int):ij v0 v1 v2 v3 v4 v5 v6 v7 v8 v9 v10 v11 = cj v0 v1 v2 v3 v4 v5 v6 v7 v8 v9 v10 v11 >>= LS.go (fun st => ij v0 v1 v2 st.1 st.2.1 st.2.2.1 st.2.2.2.1 st.2.2.2.2.1 st.2.2.2.2.2.1 st.2.2.2.2.2.2.1 st.2.2.2.2.2.2.2.1 st.2.2.2.2.2.2.2.2):=dj (fun st => cj v0 v1 v2 st.1 st.2.1 st.2.2.1 st.2.2.2.1 st.2.2.2.2.1 st.2.2.2.2.2.1 st.2.2.2.2.2.2.1 st.2.2.2.2.2.2.2.1 st.2.2.2.2.2.2.2.2) (v3,v4,v5,v6,v7,v8,v9,v10,v11)
def iv (v0:(List Int)) (v1:(List Int)) (v2:(List Int)) (v3:Int) (v4:Int) (v5:Int) (v6:Int) (v7:Int) (v8:Int) (v9:Int) (v10:Int) (v11:Int) (r:Int × Int × Int × Int × Int × Int × Int × Int):Prop:=∀ (τ:TH) (o0:Nat) (o1:Nat) (o2:Nat) (hl:τ.lock ≤ τ.next) (ha0:τ.at o0 = some ⟨ew,List.map (TV.int .u32) v0⟩) (hi0:o0 < τ.next) (ha1:τ.at o1 = some ⟨bd,List.map (TV.int .u32) v1⟩) (hi1:o1 < τ.next) (ha2:τ.at o2 = some ⟨bd,List.map (TV.int .u32) v2⟩) (hi2:o2 < τ.next) (Q:TEx → ak) (hQ0:∀ (fr:TF) (tk2:TK) (τ2:TH),lkp fr 0 = .ptr o0 0 → lkp fr 10 = .int .u32 r.1 → lkp fr 11 = .int .u32 r.2.1 → lkp fr 12 = .int .u32 r.2.2.1 → lkp fr 13 = .int .u32 r.2.2.2.1 → lkp fr 14 = .int .u32 r.2.2.2.2.1 → lkp fr 15 = .int .u32 r.2.2.2.2.2.1 → lkp fr 16 = .int .u32 r.2.2.2.2.2.2.1 → lkp fr 17 = .int .u32 r.2.2.2.2.2.2.2 → tk2.take 0 = [] → τ2.cut τ.next = τ → Q (.exit 2) fr tk2 τ2) ,tW G (.loop [0,2,6,10,11,12,13,14,15,16,17,105] l0) Q [(0,.ptr o0 0),(2,.ptr o1 0),(6,.ptr o2 0),(10,.int .u32 v3),(11,.int .u32 v4),(12,.int .u32 v5),(13,.int .u32 v6),(14,.int .u32 v7),(15,.int .u32 v8),(16,.int .u32 v9),(17,.int .u32 v10),(105,.int .i64 v11)] [] τ
theorem zcdb (v0:(List Int)) (v1:(List Int)) (v2:(List Int)) (v3:Int) (v4:Int) (v5:Int) (v6:Int) (v7:Int) (v8:Int) (v9:Int) (v10:Int) (v11:Int) (r:Int × Int × Int × Int × Int × Int × Int × Int) (h:ij v0 v1 v2 v3 v4 v5 v6 v7 v8 v9 v10 v11 = some r):iv v0 v1 v2 v3 v4 v5 v6 v7 v8 v9 v10 v11 r:=by
 refine ct (f:=fun st => cj v0 v1 v2 st.1 st.2.1 st.2.2.1 st.2.2.2.1 st.2.2.2.2.1 st.2.2.2.2.2.1 st.2.2.2.2.2.2.1 st.2.2.2.2.2.2.2.1 st.2.2.2.2.2.2.2.2) (P:=fun st r => ∀ (v3:Int) (v4:Int) (v5:Int) (v6:Int) (v7:Int) (v8:Int) (v9:Int) (v10:Int) (v11:Int),(v3,v4,v5,v6,v7,v8,v9,v10,v11) = st → iv v0 v1 v2 v3 v4 v5 v6 v7 v8 v9 v10 v11 r) ?_ h v3 v4 v5 v6 v7 v8 v9 v10 v11 rfl
 clear h r v11 v10 v9 v8 v7 v6 v5 v4 v3
 intro st o h r ih v3 v4 v5 v6 v7 v8 v9 v10 v11 hst τ o0 o1 o2  hl ha0 hi0 ha1 hi1 ha2 hi2 Q hQ0
 subst hst
 have h:cj v0 v1 v2 v3 v4 v5 v6 v7 v8 v9 v10 v11 = some o:=h
 unfold cj at h
 refine qp fun LQ hn hr he => ?_
 by_cases c1:v11 < (64:Int)
 · rw [if_pos c1] at h
   obtain ⟨c2,h⟩:=ifS h
   obtain ⟨y3,hy3,h⟩:=ob h
   have f4:=au hy3
   have f4a:=(f4.2.2 (TV.int .u32)).1
   have f4b:=(f4.2.2 (TV.int .u32)).2
   try simp only [CL,MC,reduceToNat] at f4 f4a f4b
   obtain ⟨y5,hy5,h⟩:=ob h
   have f6:=au hy5
   have f6a:=(f6.2.2 (TV.int .u32)).1
   have f6b:=(f6.2.2 (TV.int .u32)).2
   try simp only [CL,MC,reduceToNat] at f6 f6a f6b
   obtain ⟨y7,hy7,h⟩:=ob h
   have k8:=ft v7 (6:Int) _ hy7
   try simp only [CL,MC,reduceToNat] at k8
   obtain ⟨y9,hy9,h⟩:=ob h
   have k10:=ft v7 (11:Int) _ hy9
   try simp only [CL,MC,reduceToNat] at k10
   obtain ⟨y11,hy11,h⟩:=ob h
   have k12:=ft v7 (25:Int) _ hy11
   try simp only [CL,MC,reduceToNat] at k12
   obtain ⟨x13,hx13,h⟩:=ob h
   have f14:=Option.some.inj hx13
   obtain ⟨y15,hy15,h⟩:=ob h
   have k16:=ft v3 (2:Int) _ hy15
   try simp only [CL,MC,reduceToNat] at k16
   obtain ⟨y17,hy17,h⟩:=ob h
   have k18:=ft v3 (13:Int) _ hy17
   try simp only [CL,MC,reduceToNat] at k18
   obtain ⟨y19,hy19,h⟩:=ob h
   have k20:=ft v3 (22:Int) _ hy19
   try simp only [CL,MC,reduceToNat] at k20
   obtain ⟨x21,hx21,h⟩:=ob h
   have f22:=Option.some.inj hx21
   injection h with h; subst h
   have ih:=ih (IntKind.u32.wrap (x13 + x21)) v3 v4 v5 (IntKind.u32.wrap (v6 + x13)) v7 v8 v9 (IntKind.i64.wrap (v11 + (1:Int))) rfl
   unfold iv at ih
   simp -implicitDefEqProofs only [l0,da,TT,Ic.t,ci,reduceEqDiff,reduceIte,reduceAdd,reduceLT,reduceCtorEq,reduceToNat,hl,ha0,hi0,ha1,hi1,ha2,hi2,c1,c2,f4.1,f4.2.1,f4a,f4b,f6.1,f6.2.1,f6a,f6b,k8,k10,k12,f14,k16,k18,k20,f22,CL,LTN]
   rw [hn]
   simp -implicitDefEqProofs only [TT,Ic.t,ci,reduceEqDiff,reduceIte,reduceAdd,reduceLT,reduceCtorEq,reduceToNat,hl,ha0,hi0,ha1,hi1,ha2,hi2,c1,c2,f4.1,f4.2.1,f4a,f4b,f6.1,f6.2.1,f6a,f6b,k8,k10,k12,f14,k16,k18,k20,f22,CL,LTN]
   exact ih  τ o0 o1 o2   (by first | assumption | (simp only [aa,af]; assumption)) (by simp -implicitDefEqProofs only [TT,Ic.t,ci,reduceEqDiff,reduceIte,reduceAdd,reduceLT,reduceCtorEq,reduceToNat,hl,ha0,hi0,ha1,hi1,ha2,hi2,c1,c2,f4.1,f4.2.1,f4a,f4b,f6.1,f6.2.1,f6a,f6b,k8,k10,k12,f14,k16,k18,k20,f22,CL,LTN]) (by first | assumption | (simp only [aa,af]; assumption)) (by simp -implicitDefEqProofs only [TT,Ic.t,ci,reduceEqDiff,reduceIte,reduceAdd,reduceLT,reduceCtorEq,reduceToNat,hl,ha0,hi0,ha1,hi1,ha2,hi2,c1,c2,f4.1,f4.2.1,f4a,f4b,f6.1,f6.2.1,f6a,f6b,k8,k10,k12,f14,k16,k18,k20,f22,CL,LTN]) (by first | assumption | (simp only [aa,af]; assumption)) (by simp -implicitDefEqProofs only [TT,Ic.t,ci,reduceEqDiff,reduceIte,reduceAdd,reduceLT,reduceCtorEq,reduceToNat,hl,ha0,hi0,ha1,hi1,ha2,hi2,c1,c2,f4.1,f4.2.1,f4a,f4b,f6.1,f6.2.1,f6a,f6b,k8,k10,k12,f14,k16,k18,k20,f22,CL,LTN]) (by first | assumption | (simp only [aa,af]; assumption)) Q hQ0
 rw [if_neg c1] at h
 injection h with h; subst h
 obtain rfl:_ = r:=ih
 simp -implicitDefEqProofs only [l0,da,TT,Ic.t,ci,reduceEqDiff,reduceIte,reduceAdd,reduceLT,reduceCtorEq,reduceToNat,hl,ha0,hi0,ha1,hi1,ha2,hi2,he,hr,c1,CL,LTN]
 exact hQ0  _ _ _  (by first | rfl | (simp -implicitDefEqProofs only [TT,Ic.t,ci,reduceEqDiff,reduceIte,reduceAdd,reduceLT,reduceCtorEq,reduceToNat,hl,ha0,hi0,ha1,hi1,ha2,hi2,c1,CL,LTN])) (by first | rfl | (simp -implicitDefEqProofs only [TT,Ic.t,ci,reduceEqDiff,reduceIte,reduceAdd,reduceLT,reduceCtorEq,reduceToNat,hl,ha0,hi0,ha1,hi1,ha2,hi2,c1,CL,LTN])) (by first | rfl | (simp -implicitDefEqProofs only [TT,Ic.t,ci,reduceEqDiff,reduceIte,reduceAdd,reduceLT,reduceCtorEq,reduceToNat,hl,ha0,hi0,ha1,hi1,ha2,hi2,c1,CL,LTN])) (by first | rfl | (simp -implicitDefEqProofs only [TT,Ic.t,ci,reduceEqDiff,reduceIte,reduceAdd,reduceLT,reduceCtorEq,reduceToNat,hl,ha0,hi0,ha1,hi1,ha2,hi2,c1,CL,LTN])) (by first | rfl | (simp -implicitDefEqProofs only [TT,Ic.t,ci,reduceEqDiff,reduceIte,reduceAdd,reduceLT,reduceCtorEq,reduceToNat,hl,ha0,hi0,ha1,hi1,ha2,hi2,c1,CL,LTN])) (by first | rfl | (simp -implicitDefEqProofs only [TT,Ic.t,ci,reduceEqDiff,reduceIte,reduceAdd,reduceLT,reduceCtorEq,reduceToNat,hl,ha0,hi0,ha1,hi1,ha2,hi2,c1,CL,LTN])) (by first | rfl | (simp -implicitDefEqProofs only [TT,Ic.t,ci,reduceEqDiff,reduceIte,reduceAdd,reduceLT,reduceCtorEq,reduceToNat,hl,ha0,hi0,ha1,hi1,ha2,hi2,c1,CL,LTN])) (by first | rfl | (simp -implicitDefEqProofs only [TT,Ic.t,ci,reduceEqDiff,reduceIte,reduceAdd,reduceLT,reduceCtorEq,reduceToNat,hl,ha0,hi0,ha1,hi1,ha2,hi2,c1,CL,LTN])) (by first | rfl | (simp -implicitDefEqProofs only [TT,Ic.t,ci,reduceEqDiff,reduceIte,reduceAdd,reduceLT,reduceCtorEq,reduceToNat,hl,ha0,hi0,ha1,hi1,ha2,hi2,c1,CL,LTN])) (by first | rfl | (simp -implicitDefEqProofs only [TT,Ic.t,ci,reduceEqDiff,reduceIte,reduceAdd,reduceLT,reduceCtorEq,reduceToNat,hl,ha0,hi0,ha1,hi1,ha2,hi2,c1,CL,LTN])) (by first | exact f0 (Nat.le_refl _) | (simp -implicitDefEqProofs only [TT,Ic.t,ci,reduceEqDiff,reduceIte,reduceAdd,reduceLT,reduceCtorEq,reduceToNat,hl,ha0,hi0,ha1,hi1,ha2,hi2,c1,CL,LTN]))
def ch (v1:(List Int)) (v0:(List Int)) (v2:Int):Option (LS ((List Int) × Int) ((List Int))) :=
 if v2 < (8:Int) then
  if 8 ≤ v1.length then
   if 0 ≤ v2 ∧ v2 < ((8:Nat):Int) then
    ixL v1 v2 >>= fun y4 =>
    ixL v0 v2 >>= fun y6 =>
    if v2.toNat + 1 ≤ v0.length then
     some (.nx ((v0.set v2.toNat (IntKind.u32.wrap (y6 + y4))),(IntKind.i64.wrap (v2 + (1:Int)))))
    else
     none
   else
    none
  else
   none
 else
 some (.dn v0)
def ig (v1:(List Int)) (v0:(List Int)) (v2:Int):Option ((List Int)):=lf (fun st => ch v1 st.1 st.2) (v0,v2)
theorem qr (v1:(List Int)) (v0:(List Int)) (v2:Int):ig v1 v0 v2 = ch v1 v0 v2 >>= LS.go (fun st => ig v1 st.1 st.2):=dj (fun st => ch v1 st.1 st.2) (v0,v2)
def iu (v1:(List Int)) (v0:(List Int)) (v2:Int) (r:(List Int)):Prop:=∀ (τ:TH) (o0:Nat) (hl:τ.lock ≤ τ.next) (ha0:τ.at o0 = some ⟨ew,List.map (TV.int .u32) v0⟩) (hi0:o0 < τ.next) (hw0:τ.lock ≤ o0) (Q:TEx → ak) (hQ0:∀ (fr:TF) (tk2:TK) (τ2:TH),tk2.take 0 = [] → τ2.cut τ.next = (τ.put o0 ⟨ew,List.map (TV.int .u32) r⟩) → Q (.exit 4) fr tk2 τ2) ,tW G (.loop [0,178,179] lz) Q [(0,.ptr o0 0),(178,.agg (List.map (TV.int .u32) v1)),(179,.int .i64 v2)] [] τ
theorem zcdc (v1:(List Int)) (v0:(List Int)) (v2:Int) (r:(List Int)) (h:ig v1 v0 v2 = some r):iu v1 v0 v2 r:=by
 refine ct (f:=fun st => ch v1 st.1 st.2) (P:=fun st r => ∀ (v0:(List Int)) (v2:Int),(v0,v2) = st → iu v1 v0 v2 r) ?_ h v0 v2 rfl
 clear h r v2 v0
 intro st o h r ih v0 v2 hst τ o0  hl ha0 hi0 hw0 Q hQ0
 subst hst
 have h:ch v1 v0 v2 = some o:=h
 unfold ch at h
 refine qp fun LQ hn hr he => ?_
 by_cases c1:v2 < (8:Int)
 · rw [if_pos c1] at h
   obtain ⟨c2,h⟩:=ifS h
   obtain ⟨c3,h⟩:=ifS h
   obtain ⟨y4,hy4,h⟩:=ob h
   have f5:=au hy4
   have f5a:=(f5.2.2 (TV.int .u32)).1
   have f5b:=(f5.2.2 (TV.int .u32)).2
   try simp only [CL,MC,reduceToNat] at f5 f5a f5b
   obtain ⟨y6,hy6,h⟩:=ob h
   have f7:=au hy6
   have f7a:=(f7.2.2 (TV.int .u32)).1
   have f7b:=(f7.2.2 (TV.int .u32)).2
   try simp only [CL,MC,reduceToNat] at f7 f7a f7b
   obtain ⟨c8,h⟩:=ifS h
   have f9:(List.map (TV.int .u32) v0).set v2.toNat (.int .u32 (IntKind.u32.wrap (y6 + y4))) = List.map (TV.int .u32) (v0.set v2.toNat (IntKind.u32.wrap (y6 + y4))):=zbj4 (enc:=(TV.int .u32)) _ _ _
   injection h with h; subst h
   have ih:=ih (v0.set v2.toNat (IntKind.u32.wrap (y6 + y4))) (IntKind.i64.wrap (v2 + (1:Int))) rfl
   unfold iu at ih
   simp -implicitDefEqProofs only [lz,da,TT,Ic.t,ci,reduceEqDiff,reduceIte,reduceAdd,reduceLT,reduceCtorEq,reduceToNat,hl,ha0,hi0,hw0,c1,c2,c3,f5.1,f5.2.1,f5a,f5b,f7.1,f7.2.1,f7a,f7b,c8,f9,CL,LTN]
   rw [hn]
   simp -implicitDefEqProofs only [TT,Ic.t,ci,reduceEqDiff,reduceIte,reduceAdd,reduceLT,reduceCtorEq,reduceToNat,hl,ha0,hi0,hw0,c1,c2,c3,f5.1,f5.2.1,f5a,f5b,f7.1,f7.2.1,f7a,f7b,c8,f9,CL,LTN]
   exact ih  (τ.put o0 ⟨ew,List.map (TV.int .u32) (v0.set v2.toNat (IntKind.u32.wrap (y6 + y4)))⟩) o0   (by first | assumption | (simp only [aa,af]; assumption)) (by simp -implicitDefEqProofs only [TT,Ic.t,ci,reduceEqDiff,reduceIte,reduceAdd,reduceLT,reduceCtorEq,reduceToNat,hl,ha0,hi0,hw0,c1,c2,c3,f5.1,f5.2.1,f5a,f5b,f7.1,f7.2.1,f7a,f7b,c8,f9,CL,LTN]) (by first | assumption | (simp only [aa,af]; assumption)) (by first | assumption | (simp only [aa,af]; assumption)) Q (fun fr tk2 τ2  ht hτ => hQ0 fr tk2 τ2  ht (by first | exact hτ | simpa only [aa,zbbl,hl,ha0,hi0,hw0] using hτ))
 rw [if_neg c1] at h
 injection h with h; subst h
 obtain rfl:_ = r:=ih
 simp -implicitDefEqProofs only [lz,da,TT,Ic.t,ci,reduceEqDiff,reduceIte,reduceAdd,reduceLT,reduceCtorEq,reduceToNat,hl,ha0,hi0,hw0,he,hr,c1,CL,LTN]
 exact hQ0  _ _ _   (by first | rfl | (simp -implicitDefEqProofs only [TT,Ic.t,ci,reduceEqDiff,reduceIte,reduceAdd,reduceLT,reduceCtorEq,reduceToNat,hl,ha0,hi0,hw0,c1,CL,LTN])) (by first | exact f0 (Nat.le_refl _) | (simp -implicitDefEqProofs only [TT,Ic.t,ci,reduceEqDiff,reduceIte,reduceAdd,reduceLT,reduceCtorEq,reduceToNat,hl,ha0,hi0,hw0,kr ha0,c1,CL,LTN]))
def jd (p1:(List Int)) (p2:ByteArray) (p3:(List Int)):Option (List Int) :=
 ep p1 p2 p3 (List.replicate 64 (0:Int)) (0:Int) >>= fun y1 =>
 ixL p1 (0:Int) >>= fun y4 =>
 ixL p1 (1:Int) >>= fun y7 =>
 ixL p1 (2:Int) >>= fun y10 =>
 ixL p1 (3:Int) >>= fun y13 =>
 ixL p1 (4:Int) >>= fun y16 =>
 ixL p1 (5:Int) >>= fun y19 =>
 ixL p1 (6:Int) >>= fun y22 =>
 ixL p1 (7:Int) >>= fun y25 =>
 ij p1 p3 y1 y4 y7 y10 y13 y16 y19 y22 y25 (0:Int) >>= fun y27 =>
 ig [y27.1,y27.2.1,y27.2.2.1,y27.2.2.2.1,y27.2.2.2.2.1,y27.2.2.2.2.2.1,y27.2.2.2.2.2.2.1,y27.2.2.2.2.2.2.2] p1 (0:Int) >>= fun y29 =>
 some y29
theorem zca6 (p1:(List Int)) (p2:ByteArray) (p3:(List Int)) (r:(List Int)) (h:jd p1 p2 p3 = some r) (τ:TH) (o0:Nat) (o1:Nat) (hl:τ.lock ≤ τ.next) (ha0:τ.at o0 = some ⟨ew,List.map (TV.int .u32) p1⟩) (hi0:o0 < τ.next) (hw0:τ.lock ≤ o0) (ha1:τ.at o1 = some ⟨bd,List.map (TV.int .u32) p3⟩) (hi1:o1 < τ.next) (hn0_1:o0 ≠ o1):Ru G jp [.ptr o0 0,.str p2,.ptr o1 0] τ (.tup []) (τ.put o0 ⟨ew,List.map (TV.int .u32) r⟩):=by
 refine jn fun K hK => ?_
 rw [cb zb89 (Nat.le_of_ble_eq_true rfl)]
 unfold jd at h
 obtain ⟨y1,hy1,h⟩:=ob h
 simp -implicitDefEqProofs only [da,TT,Ic.t,ci,reduceEqDiff,reduceIte,reduceAdd,reduceMul,reduceLT,reduceLeDiff,reduceSub,reduceCtorEq,reduceEq,reduceNe,reduceToNat,Int.reduceLT,reduceLE,reduceNeg,hl,ha0,hi0,hw0,ha1,hi1,nq hn0_1,CL,LTN]
 have Sy1:=zcda p1 p2 p3 (List.replicate 64 (0:Int)) (0:Int) y1 hy1
 unfold gh at Sy1
 refine Sy1 _ o0 o1 τ.next (by first | assumption | omega | (simp only [aa,ag,af,ar]; omega)) (by first | (simp -implicitDefEqProofs only [TT,Ic.t,ci,reduceEqDiff,reduceIte,reduceAdd,reduceMul,reduceLT,reduceLeDiff,reduceSub,reduceCtorEq,reduceEq,reduceNe,reduceToNat,Int.reduceLT,reduceLE,reduceNeg,hl,ha0,hi0,hw0,ha1,hi1,nq hn0_1,CL,LTN]; done) | (simp -implicitDefEqProofs only [TT,Ic.t,ci,reduceEqDiff,reduceIte,reduceAdd,reduceMul,reduceLT,reduceLeDiff,reduceSub,reduceCtorEq,reduceEq,reduceNe,reduceToNat,Int.reduceLT,reduceLE,reduceNeg,hl,ha0,hi0,hw0,ha1,hi1,nq hn0_1,CL,LTN]; rfl)) (by first | assumption | omega | (simp only [aa,ag,af,ar]; omega)) (by first | (simp -implicitDefEqProofs only [TT,Ic.t,ci,reduceEqDiff,reduceIte,reduceAdd,reduceMul,reduceLT,reduceLeDiff,reduceSub,reduceCtorEq,reduceEq,reduceNe,reduceToNat,Int.reduceLT,reduceLE,reduceNeg,hl,ha0,hi0,hw0,ha1,hi1,nq hn0_1,CL,LTN]; done) | (simp -implicitDefEqProofs only [TT,Ic.t,ci,reduceEqDiff,reduceIte,reduceAdd,reduceMul,reduceLT,reduceLeDiff,reduceSub,reduceCtorEq,reduceEq,reduceNe,reduceToNat,Int.reduceLT,reduceLE,reduceNeg,hl,ha0,hi0,hw0,ha1,hi1,nq hn0_1,CL,LTN]; rfl)) (by first | assumption | omega | (simp only [aa,ag,af,ar]; omega)) (by first | (simp -implicitDefEqProofs only [TT,Ic.t,ci,reduceEqDiff,reduceIte,reduceAdd,reduceMul,reduceLT,reduceLeDiff,reduceSub,reduceCtorEq,reduceEq,reduceNe,reduceToNat,Int.reduceLT,reduceLE,reduceNeg,hl,ha0,hi0,hw0,ha1,hi1,nq hn0_1,CL,LTN]; done) | (simp -implicitDefEqProofs only [TT,Ic.t,ci,reduceEqDiff,reduceIte,reduceAdd,reduceMul,reduceLT,reduceLeDiff,reduceSub,reduceCtorEq,reduceEq,reduceNe,reduceToNat,Int.reduceLT,reduceLE,reduceNeg,hl,ha0,hi0,hw0,ha1,hi1,nq hn0_1,CL,LTN]; rfl)) (by first | assumption | omega | (simp only [aa,ag,af,ar]; omega)) (by first | assumption | omega | (simp only [aa,ag,af,ar]; omega)) (by first | assumption | omega | (simp only [aa,ag]; omega)) (by first | assumption | omega | (simp only [aa,ag]; omega)) _ ?_
 intro frq2 tkq2 τq2 g0q2 g2q2 g6q2 htq2 hcq2
 have hcq2:=cn (n:=τ.next + 1) hcq2 (by first | omega | (simp only [aa,ag]; omega))
 try simp only [List.take_succ_cons,List.take_zero,List.take_nil,CL] at htq2
 try simp -implicitDefEqProofs only [TT,Ic.t,ci,reduceEqDiff,reduceIte,reduceAdd,reduceMul,reduceLT,reduceLeDiff,reduceSub,reduceCtorEq,reduceEq,reduceNe,reduceToNat,Int.reduceLT,reduceLE,reduceNeg,hl,ha0,hi0,hw0,ha1,hi1,nq hn0_1,CL,LTN] at hcq2
 have f3:(0:Int) < ((8:Nat):Int):=by decide
 obtain ⟨y4,hy4,h⟩:=ob h
 have f5:=au hy4
 have f5a:=(f5.2.2 (TV.int .u32)).1
 have f5b:=(f5.2.2 (TV.int .u32)).2
 try simp only [CL,MC,reduceToNat] at f5 f5a f5b
 have f6:(1:Int) < ((8:Nat):Int):=by decide
 obtain ⟨y7,hy7,h⟩:=ob h
 have f8:=au hy7
 have f8a:=(f8.2.2 (TV.int .u32)).1
 have f8b:=(f8.2.2 (TV.int .u32)).2
 try simp only [CL,MC,reduceToNat] at f8 f8a f8b
 have f9:(2:Int) < ((8:Nat):Int):=by decide
 obtain ⟨y10,hy10,h⟩:=ob h
 have f11:=au hy10
 have f11a:=(f11.2.2 (TV.int .u32)).1
 have f11b:=(f11.2.2 (TV.int .u32)).2
 try simp only [CL,MC,reduceToNat] at f11 f11a f11b
 have f12:(3:Int) < ((8:Nat):Int):=by decide
 obtain ⟨y13,hy13,h⟩:=ob h
 have f14:=au hy13
 have f14a:=(f14.2.2 (TV.int .u32)).1
 have f14b:=(f14.2.2 (TV.int .u32)).2
 try simp only [CL,MC,reduceToNat] at f14 f14a f14b
 have f15:(4:Int) < ((8:Nat):Int):=by decide
 obtain ⟨y16,hy16,h⟩:=ob h
 have f17:=au hy16
 have f17a:=(f17.2.2 (TV.int .u32)).1
 have f17b:=(f17.2.2 (TV.int .u32)).2
 try simp only [CL,MC,reduceToNat] at f17 f17a f17b
 have f18:(5:Int) < ((8:Nat):Int):=by decide
 obtain ⟨y19,hy19,h⟩:=ob h
 have f20:=au hy19
 have f20a:=(f20.2.2 (TV.int .u32)).1
 have f20b:=(f20.2.2 (TV.int .u32)).2
 try simp only [CL,MC,reduceToNat] at f20 f20a f20b
 have f21:(6:Int) < ((8:Nat):Int):=by decide
 obtain ⟨y22,hy22,h⟩:=ob h
 have f23:=au hy22
 have f23a:=(f23.2.2 (TV.int .u32)).1
 have f23b:=(f23.2.2 (TV.int .u32)).2
 try simp only [CL,MC,reduceToNat] at f23 f23a f23b
 have f24:(7:Int) < ((8:Nat):Int):=by decide
 obtain ⟨y25,hy25,h⟩:=ob h
 have f26:=au hy25
 have f26a:=(f26.2.2 (TV.int .u32)).1
 have f26b:=(f26.2.2 (TV.int .u32)).2
 try simp only [CL,MC,reduceToNat] at f26 f26a f26b
 obtain ⟨y27,hy27,h⟩:=ob h
 simp -implicitDefEqProofs only [da,TT,Ic.t,ci,reduceEqDiff,reduceIte,reduceAdd,reduceMul,reduceLT,reduceLeDiff,reduceSub,reduceCtorEq,reduceEq,reduceNe,reduceToNat,Int.reduceLT,reduceLE,reduceNeg,hl,ha0,hi0,hw0,ha1,hi1,nq hn0_1,g0q2,g2q2,g6q2,htq2,hcq2,f3,f5.1,f5.2.1,f5a,f5b,f6,f8.1,f8.2.1,f8a,f8b,f9,f11.1,f11.2.1,f11a,f11b,f12,f14.1,f14.2.1,f14a,f14b,f15,f17.1,f17.2.1,f17a,f17b,f18,f20.1,f20.2.1,f20a,f20b,f21,f23.1,f23.2.1,f23a,f23b,f24,f26.1,f26.2.1,f26a,f26b,CL,LTN]
 have Sy27:=zcdb p1 p3 y1 y4 y7 y10 y13 y16 y19 y22 y25 (0:Int) y27 hy27
 unfold iv at Sy27
 refine Sy27 _ o0 o1 τ.next (by first | assumption | omega | (simp only [aa,ag,af,ar]; omega)) (by first | (simp -implicitDefEqProofs only [TT,Ic.t,ci,reduceEqDiff,reduceIte,reduceAdd,reduceMul,reduceLT,reduceLeDiff,reduceSub,reduceCtorEq,reduceEq,reduceNe,reduceToNat,Int.reduceLT,reduceLE,reduceNeg,hl,ha0,hi0,hw0,ha1,hi1,nq hn0_1,g0q2,g2q2,g6q2,htq2,hcq2,f3,f5.1,f5.2.1,f5a,f5b,f6,f8.1,f8.2.1,f8a,f8b,f9,f11.1,f11.2.1,f11a,f11b,f12,f14.1,f14.2.1,f14a,f14b,f15,f17.1,f17.2.1,f17a,f17b,f18,f20.1,f20.2.1,f20a,f20b,f21,f23.1,f23.2.1,f23a,f23b,f24,f26.1,f26.2.1,f26a,f26b,CL,LTN]; done) | (simp -implicitDefEqProofs only [TT,Ic.t,ci,reduceEqDiff,reduceIte,reduceAdd,reduceMul,reduceLT,reduceLeDiff,reduceSub,reduceCtorEq,reduceEq,reduceNe,reduceToNat,Int.reduceLT,reduceLE,reduceNeg,hl,ha0,hi0,hw0,ha1,hi1,nq hn0_1,g0q2,g2q2,g6q2,htq2,hcq2,f3,f5.1,f5.2.1,f5a,f5b,f6,f8.1,f8.2.1,f8a,f8b,f9,f11.1,f11.2.1,f11a,f11b,f12,f14.1,f14.2.1,f14a,f14b,f15,f17.1,f17.2.1,f17a,f17b,f18,f20.1,f20.2.1,f20a,f20b,f21,f23.1,f23.2.1,f23a,f23b,f24,f26.1,f26.2.1,f26a,f26b,CL,LTN]; rfl)) (by first | assumption | omega | (simp only [aa,ag,af,ar]; omega)) (by first | (simp -implicitDefEqProofs only [TT,Ic.t,ci,reduceEqDiff,reduceIte,reduceAdd,reduceMul,reduceLT,reduceLeDiff,reduceSub,reduceCtorEq,reduceEq,reduceNe,reduceToNat,Int.reduceLT,reduceLE,reduceNeg,hl,ha0,hi0,hw0,ha1,hi1,nq hn0_1,g0q2,g2q2,g6q2,htq2,hcq2,f3,f5.1,f5.2.1,f5a,f5b,f6,f8.1,f8.2.1,f8a,f8b,f9,f11.1,f11.2.1,f11a,f11b,f12,f14.1,f14.2.1,f14a,f14b,f15,f17.1,f17.2.1,f17a,f17b,f18,f20.1,f20.2.1,f20a,f20b,f21,f23.1,f23.2.1,f23a,f23b,f24,f26.1,f26.2.1,f26a,f26b,CL,LTN]; done) | (simp -implicitDefEqProofs only [TT,Ic.t,ci,reduceEqDiff,reduceIte,reduceAdd,reduceMul,reduceLT,reduceLeDiff,reduceSub,reduceCtorEq,reduceEq,reduceNe,reduceToNat,Int.reduceLT,reduceLE,reduceNeg,hl,ha0,hi0,hw0,ha1,hi1,nq hn0_1,g0q2,g2q2,g6q2,htq2,hcq2,f3,f5.1,f5.2.1,f5a,f5b,f6,f8.1,f8.2.1,f8a,f8b,f9,f11.1,f11.2.1,f11a,f11b,f12,f14.1,f14.2.1,f14a,f14b,f15,f17.1,f17.2.1,f17a,f17b,f18,f20.1,f20.2.1,f20a,f20b,f21,f23.1,f23.2.1,f23a,f23b,f24,f26.1,f26.2.1,f26a,f26b,CL,LTN]; rfl)) (by first | assumption | omega | (simp only [aa,ag,af,ar]; omega)) (by first | (simp -implicitDefEqProofs only [TT,Ic.t,ci,reduceEqDiff,reduceIte,reduceAdd,reduceMul,reduceLT,reduceLeDiff,reduceSub,reduceCtorEq,reduceEq,reduceNe,reduceToNat,Int.reduceLT,reduceLE,reduceNeg,hl,ha0,hi0,hw0,ha1,hi1,nq hn0_1,g0q2,g2q2,g6q2,htq2,hcq2,f3,f5.1,f5.2.1,f5a,f5b,f6,f8.1,f8.2.1,f8a,f8b,f9,f11.1,f11.2.1,f11a,f11b,f12,f14.1,f14.2.1,f14a,f14b,f15,f17.1,f17.2.1,f17a,f17b,f18,f20.1,f20.2.1,f20a,f20b,f21,f23.1,f23.2.1,f23a,f23b,f24,f26.1,f26.2.1,f26a,f26b,CL,LTN]; done) | (simp -implicitDefEqProofs only [TT,Ic.t,ci,reduceEqDiff,reduceIte,reduceAdd,reduceMul,reduceLT,reduceLeDiff,reduceSub,reduceCtorEq,reduceEq,reduceNe,reduceToNat,Int.reduceLT,reduceLE,reduceNeg,hl,ha0,hi0,hw0,ha1,hi1,nq hn0_1,g0q2,g2q2,g6q2,htq2,hcq2,f3,f5.1,f5.2.1,f5a,f5b,f6,f8.1,f8.2.1,f8a,f8b,f9,f11.1,f11.2.1,f11a,f11b,f12,f14.1,f14.2.1,f14a,f14b,f15,f17.1,f17.2.1,f17a,f17b,f18,f20.1,f20.2.1,f20a,f20b,f21,f23.1,f23.2.1,f23a,f23b,f24,f26.1,f26.2.1,f26a,f26b,CL,LTN]; rfl)) (by first | assumption | omega | (simp only [aa,ag,af,ar]; omega)) _ ?_
 intro frq28 tkq28 τq28 g0q28 g10q28 g11q28 g12q28 g13q28 g14q28 g15q28 g16q28 g17q28 htq28 hcq28
 have hcq28:=cn (n:=τ.next + 1) hcq28 (by first | omega | (simp only [aa,ag]; omega))
 try simp only [List.take_succ_cons,List.take_zero,List.take_nil,CL] at htq28
 try simp -implicitDefEqProofs only [TT,Ic.t,ci,reduceEqDiff,reduceIte,reduceAdd,reduceMul,reduceLT,reduceLeDiff,reduceSub,reduceCtorEq,reduceEq,reduceNe,reduceToNat,Int.reduceLT,reduceLE,reduceNeg,hl,ha0,hi0,hw0,ha1,hi1,nq hn0_1,g0q2,g2q2,g6q2,htq2,hcq2,f3,f5.1,f5.2.1,f5a,f5b,f6,f8.1,f8.2.1,f8a,f8b,f9,f11.1,f11.2.1,f11a,f11b,f12,f14.1,f14.2.1,f14a,f14b,f15,f17.1,f17.2.1,f17a,f17b,f18,f20.1,f20.2.1,f20a,f20b,f21,f23.1,f23.2.1,f23a,f23b,f24,f26.1,f26.2.1,f26a,f26b,CL,LTN] at hcq28
 obtain ⟨y29,hy29,h⟩:=ob h
 simp -implicitDefEqProofs only [da,TT,Ic.t,ci,reduceEqDiff,reduceIte,reduceAdd,reduceMul,reduceLT,reduceLeDiff,reduceSub,reduceCtorEq,reduceEq,reduceNe,reduceToNat,Int.reduceLT,reduceLE,reduceNeg,hl,ha0,hi0,hw0,ha1,hi1,nq hn0_1,g0q2,g2q2,g6q2,htq2,hcq2,f3,f5.1,f5.2.1,f5a,f5b,f6,f8.1,f8.2.1,f8a,f8b,f9,f11.1,f11.2.1,f11a,f11b,f12,f14.1,f14.2.1,f14a,f14b,f15,f17.1,f17.2.1,f17a,f17b,f18,f20.1,f20.2.1,f20a,f20b,f21,f23.1,f23.2.1,f23a,f23b,f24,f26.1,f26.2.1,f26a,f26b,g0q28,g10q28,g11q28,g12q28,g13q28,g14q28,g15q28,g16q28,g17q28,htq28,hcq28,CL,LTN]
 have Sy29:=zcdc [y27.1,y27.2.1,y27.2.2.1,y27.2.2.2.1,y27.2.2.2.2.1,y27.2.2.2.2.2.1,y27.2.2.2.2.2.2.1,y27.2.2.2.2.2.2.2] p1 (0:Int) y29 hy29
 unfold iu at Sy29
 refine Sy29 _ o0 (by first | assumption | omega | (simp only [aa,ag,af,ar]; omega)) (by first | (simp -implicitDefEqProofs only [TT,Ic.t,ci,reduceEqDiff,reduceIte,reduceAdd,reduceMul,reduceLT,reduceLeDiff,reduceSub,reduceCtorEq,reduceEq,reduceNe,reduceToNat,Int.reduceLT,reduceLE,reduceNeg,hl,ha0,hi0,hw0,ha1,hi1,nq hn0_1,g0q2,g2q2,g6q2,htq2,hcq2,f3,f5.1,f5.2.1,f5a,f5b,f6,f8.1,f8.2.1,f8a,f8b,f9,f11.1,f11.2.1,f11a,f11b,f12,f14.1,f14.2.1,f14a,f14b,f15,f17.1,f17.2.1,f17a,f17b,f18,f20.1,f20.2.1,f20a,f20b,f21,f23.1,f23.2.1,f23a,f23b,f24,f26.1,f26.2.1,f26a,f26b,g0q28,g10q28,g11q28,g12q28,g13q28,g14q28,g15q28,g16q28,g17q28,htq28,hcq28,CL,LTN]; done) | (simp -implicitDefEqProofs only [TT,Ic.t,ci,reduceEqDiff,reduceIte,reduceAdd,reduceMul,reduceLT,reduceLeDiff,reduceSub,reduceCtorEq,reduceEq,reduceNe,reduceToNat,Int.reduceLT,reduceLE,reduceNeg,hl,ha0,hi0,hw0,ha1,hi1,nq hn0_1,g0q2,g2q2,g6q2,htq2,hcq2,f3,f5.1,f5.2.1,f5a,f5b,f6,f8.1,f8.2.1,f8a,f8b,f9,f11.1,f11.2.1,f11a,f11b,f12,f14.1,f14.2.1,f14a,f14b,f15,f17.1,f17.2.1,f17a,f17b,f18,f20.1,f20.2.1,f20a,f20b,f21,f23.1,f23.2.1,f23a,f23b,f24,f26.1,f26.2.1,f26a,f26b,g0q28,g10q28,g11q28,g12q28,g13q28,g14q28,g15q28,g16q28,g17q28,htq28,hcq28,CL,LTN]; rfl)) (by first | assumption | omega | (simp only [aa,ag,af,ar]; omega)) (by first | assumption | omega | (simp only [aa,ag,af,ar]; omega)) _ ?_
 intro frq30 tkq30 τq30 htq30 hcq30
 have hcq30:=cn (n:=τ.next + 1) hcq30 (by first | omega | (simp only [aa,ag]; omega))
 try simp only [List.take_succ_cons,List.take_zero,List.take_nil,CL] at htq30
 try simp -implicitDefEqProofs only [TT,Ic.t,ci,reduceEqDiff,reduceIte,reduceAdd,reduceMul,reduceLT,reduceLeDiff,reduceSub,reduceCtorEq,reduceEq,reduceNe,reduceToNat,Int.reduceLT,reduceLE,reduceNeg,hl,ha0,hi0,hw0,ha1,hi1,nq hn0_1,g0q2,g2q2,g6q2,htq2,hcq2,f3,f5.1,f5.2.1,f5a,f5b,f6,f8.1,f8.2.1,f8a,f8b,f9,f11.1,f11.2.1,f11a,f11b,f12,f14.1,f14.2.1,f14a,f14b,f15,f17.1,f17.2.1,f17a,f17b,f18,f20.1,f20.2.1,f20a,f20b,f21,f23.1,f23.2.1,f23a,f23b,f24,f26.1,f26.2.1,f26a,f26b,g0q28,g10q28,g11q28,g12q28,g13q28,g14q28,g15q28,g16q28,g17q28,htq28,hcq28,CL,LTN] at hcq30
 injection h with h; subst h
 simp -implicitDefEqProofs only [da,TT,Ic.t,ci,reduceEqDiff,reduceIte,reduceAdd,reduceMul,reduceLT,reduceLeDiff,reduceSub,reduceCtorEq,reduceEq,reduceNe,reduceToNat,Int.reduceLT,reduceLE,reduceNeg,hl,ha0,hi0,hw0,ha1,hi1,nq hn0_1,g0q2,g2q2,g6q2,htq2,hcq2,f3,f5.1,f5.2.1,f5a,f5b,f6,f8.1,f8.2.1,f8a,f8b,f9,f11.1,f11.2.1,f11a,f11b,f12,f14.1,f14.2.1,f14a,f14b,f15,f17.1,f17.2.1,f17a,f17b,f18,f20.1,f20.2.1,f20a,f20b,f21,f23.1,f23.2.1,f23a,f23b,f24,f26.1,f26.2.1,f26a,f26b,g0q28,g10q28,g11q28,g12q28,g13q28,g14q28,g15q28,g16q28,g17q28,htq28,hcq28,htq30,hcq30,CL,LTN]
 exact hK
theorem zca5 (p1:(List Int)) (p2:ByteArray) (p3:(List Int)) (r:(List Int)) (h:jd p1 p2 p3 = some r) (d:Option Nat) (K:ak) (fr:TF) (tk:TK) (τ:TH) (o0:Nat) (o1:Nat) (hl:τ.lock ≤ τ.next) (ha0:τ.at o0 = some ⟨ew,List.map (TV.int .u32) p1⟩) (hi0:o0 < τ.next) (hw0:τ.lock ≤ o0) (ha1:τ.at o1 = some ⟨bd,List.map (TV.int .u32) p3⟩) (hi1:o1 < τ.next) (hn0_1:o0 ≠ o1):d9 G false jp [.ptr o0 0,.str p2,.ptr o1 0] d K fr tk τ = K (dh fr d (.tup [])) tk (τ.put o0 ⟨ew,List.map (TV.int .u32) r⟩) :=
 iy (zca6 p1 p2 p3 r h τ o0 o1 hl ha0 hi0 hw0 ha1 hi1 hn0_1) (by simp -implicitDefEqProofs only [TT,Ic.t,ci,reduceEqDiff,reduceIte,reduceAdd,reduceLT,reduceCtorEq,reduceToNat,hl,ha0,hi0,hw0,ha1,hi1,nq hn0_1,CL,LTN])
def d5 (v0:Int) (v1:ByteArray):Option (LS (ByteArray) (ByteArray)) :=
 if (Int.tmod ((v1.size:Nat):Int) (64:Int)) = (56:Int) then
  some (.dn v1)
 else
 if 0 ≤ (0:Int) ∧ (0:Int) < 256 ∧ v1.size + 1 ≤ 140737488355328 then
  some (.nx (v1.push (UInt8.ofNat (0:Int).toNat)))
 else
  none
def qx (v0:Int) (v1:ByteArray):Option (ByteArray):=lf (fun st => d5 v0 st) v1
theorem zbz7 (v0:Int) (v1:ByteArray):qx v0 v1 = d5 v0 v1 >>= LS.go (fun st => qx v0 st):=dj (fun st => d5 v0 st) v1
def qm (v0:Int) (v1:ByteArray) (r:ByteArray):Prop:=∀ (τ:TH) (o0:Nat) (hl:τ.lock ≤ τ.next) (ub0:Bool) (hub0:ub0 = true ∨ v1.size = 0) (ha0:τ.at o0 = some (cu o0 ub0 v1)) (hi0:o0 < τ.next) (hw0:τ.lock ≤ o0) (Q:TEx → ak) (hQ0:∀ (fr:TF) (tk2:TK) (τ2:TH),∀ (ubx0:Bool),(ubx0 = true ∨ r.size = 0) → lkp fr 3 = .int .u64 v0 → lkp fr 4 = .ptr o0 0 → tk2.take 0 = [] → τ2.cut τ.next = (τ.put o0 (cu o0 ubx0 r)) → Q (.exit 0) fr tk2 τ2) ,tW G (.loop [3,4] zbmi) Q [(3,.int .u64 v0),(4,.ptr o0 0)] [] τ
theorem zb8v (v0:Int) (v1:ByteArray) (r:ByteArray) (h:qx v0 v1 = some r):qm v0 v1 r:=by
 refine ct (f:=fun st => d5 v0 st) (P:=fun st r => ∀ (v1:ByteArray),v1 = st → qm v0 v1 r) ?_ h v1 rfl
 clear h r v1
 intro st o h r ih v1 hst τ o0  hl ub0 hub0 ha0 hi0 hw0 Q hQ0
 subst hst
 have h:d5 v0 v1 = some o:=h
 unfold d5 at h
 refine qp fun LQ hn hr he => ?_
 have k1:=fun (id:Nat) (lk:Bool) (d:Option Nat) (K:ak) (fr:TF) (tk:TK) (τ:TH) (ha:τ.at id = some (cu id ub0 v1)) (hi:id < τ.next) (hl:τ.lock ≤ τ.next) => zbqs v1 id ub0 d K fr tk τ ha hi hl (by first | exact .inl rfl | assumption) lk
 by_cases c2:(Int.tmod ((v1.size:Nat):Int) (64:Int)) = (56:Int)
 · rw [if_pos c2] at h
   injection h with h; subst h
   obtain rfl:_ = r:=ih
   simp -implicitDefEqProofs only [zbmi,il,TT,Ic.t,ci,reduceEqDiff,reduceIte,reduceAdd,reduceMul,reduceLT,reduceLeDiff,reduceSub,reduceCtorEq,reduceEq,reduceNe,reduceToNat,Int.reduceLT,reduceLE,reduceNeg,hl,fh,ha0,hi0,hw0,he,hr,k1,eq_true c2,CL,LTN]
   exact hQ0  _ _ _ ub0 (by first | exact .inl rfl | assumption) (by first | rfl | (simp -implicitDefEqProofs only [TT,Ic.t,ci,reduceEqDiff,reduceIte,reduceAdd,reduceMul,reduceLT,reduceLeDiff,reduceSub,reduceCtorEq,reduceEq,reduceNe,reduceToNat,Int.reduceLT,reduceLE,reduceNeg,hl,fh,ha0,hi0,hw0,k1,eq_true c2,CL,LTN])) (by first | rfl | (simp -implicitDefEqProofs only [TT,Ic.t,ci,reduceEqDiff,reduceIte,reduceAdd,reduceMul,reduceLT,reduceLeDiff,reduceSub,reduceCtorEq,reduceEq,reduceNe,reduceToNat,Int.reduceLT,reduceLE,reduceNeg,hl,fh,ha0,hi0,hw0,k1,eq_true c2,CL,LTN])) (by first | rfl | (simp -implicitDefEqProofs only [TT,Ic.t,ci,reduceEqDiff,reduceIte,reduceAdd,reduceMul,reduceLT,reduceLeDiff,reduceSub,reduceCtorEq,reduceEq,reduceNe,reduceToNat,Int.reduceLT,reduceLE,reduceNeg,hl,fh,ha0,hi0,hw0,k1,eq_true c2,CL,LTN])) (by first | exact f0 (Nat.le_refl _) | (simp -implicitDefEqProofs only [TT,Ic.t,ci,reduceEqDiff,reduceIte,reduceAdd,reduceMul,reduceLT,reduceLeDiff,reduceSub,reduceCtorEq,reduceEq,reduceNe,reduceToNat,Int.reduceLT,reduceLE,reduceNeg,hl,fh,ha0,hi0,hw0,kr ha0,k1,eq_true c2,CL,LTN]))
 rw [if_neg c2] at h
 obtain ⟨c3,h⟩:=ifS h
 have k4:=fun (id:Nat) (d:Option Nat) (K:ak) (fr:TF) (tk:TK) (τ:TH) (ha:τ.at id = some (cu id ub0 v1)) (hi:id < τ.next) (hw:τ.lock ≤ id) (hl:τ.lock ≤ τ.next) => zbzx v1 id ub0 d K fr tk τ ha hi hw hl (by first | exact .inl rfl | assumption) (0:Int) c3.1 c3.2.1 c3.2.2
 injection h with h; subst h
 have ih:=ih (v1.push (UInt8.ofNat (0:Int).toNat)) rfl
 unfold qm at ih
 simp -implicitDefEqProofs only [zbmi,il,TT,Ic.t,ci,reduceEqDiff,reduceIte,reduceAdd,reduceMul,reduceLT,reduceLeDiff,reduceSub,reduceCtorEq,reduceEq,reduceNe,reduceToNat,Int.reduceLT,reduceLE,reduceNeg,hl,fh,ha0,hi0,hw0,k1,c2,c3,k4,CL,LTN]
 rw [hn]
 simp -implicitDefEqProofs only [TT,Ic.t,ci,reduceEqDiff,reduceIte,reduceAdd,reduceMul,reduceLT,reduceLeDiff,reduceSub,reduceCtorEq,reduceEq,reduceNe,reduceToNat,Int.reduceLT,reduceLE,reduceNeg,hl,fh,ha0,hi0,hw0,k1,c2,c3,k4,CL,LTN]
 exact ih  (τ.put o0 (cu o0 true (v1.push (UInt8.ofNat (0:Int).toNat)))) o0   (by first | assumption | (simp only [aa,af]; assumption)) true (by first | exact .inl rfl | assumption) (by simp -implicitDefEqProofs only [TT,Ic.t,ci,reduceEqDiff,reduceIte,reduceAdd,reduceMul,reduceLT,reduceLeDiff,reduceSub,reduceCtorEq,reduceEq,reduceNe,reduceToNat,Int.reduceLT,reduceLE,reduceNeg,hl,fh,ha0,hi0,hw0,k1,c2,c3,k4,CL,LTN]) (by first | assumption | (simp only [aa,af]; assumption)) (by first | assumption | (simp only [aa,af]; assumption)) Q (fun fr tk2 τ2 w0 w0' g0 g1 ht hτ => hQ0 fr tk2 τ2 w0 w0' g0 g1 ht (by first | exact hτ | simpa only [aa,zbbl,hl,fh,ha0,hi0,hw0] using hτ))
def d4 (v0:Int) (v1:ByteArray) (v2:Int):Option (LS (ByteArray × Int) (ByteArray)) :=
 if v2 < (8:Int) then
  if ¬ (IntKind.i64.wrap ((56:Int) - (IntKind.i64.wrap ((8:Int) * v2)))) < 0 then
   if 0 ≤ (IntKind.u8.wrap (Int.fdiv v0 (2 ^ (Nat.min (IntKind.i64.wrap ((56:Int) - (IntKind.i64.wrap ((8:Int) * v2)))).toNat IntKind.u64.bits)))) ∧ (IntKind.u8.wrap (Int.fdiv v0 (2 ^ (Nat.min (IntKind.i64.wrap ((56:Int) - (IntKind.i64.wrap ((8:Int) * v2)))).toNat IntKind.u64.bits)))) < 256 ∧ v1.size + 1 ≤ 140737488355328 then
    some (.nx ((v1.push (UInt8.ofNat (IntKind.u8.wrap (Int.fdiv v0 (2 ^ (Nat.min (IntKind.i64.wrap ((56:Int) - (IntKind.i64.wrap ((8:Int) * v2)))).toNat IntKind.u64.bits)))).toNat)),(IntKind.i64.wrap (v2 + (1:Int)))))
   else
    none
  else
   none
 else
 some (.dn v1)
def qw (v0:Int) (v1:ByteArray) (v2:Int):Option (ByteArray):=lf (fun st => d4 v0 st.1 st.2) (v1,v2)
theorem zbz8 (v0:Int) (v1:ByteArray) (v2:Int):qw v0 v1 v2 = d4 v0 v1 v2 >>= LS.go (fun st => qw v0 st.1 st.2):=dj (fun st => d4 v0 st.1 st.2) (v1,v2)
def ql (v0:Int) (v1:ByteArray) (v2:Int) (r:ByteArray):Prop:=∀ (τ:TH) (o0:Nat) (hl:τ.lock ≤ τ.next) (ub0:Bool) (hub0:ub0 = true ∨ v1.size = 0) (ha0:τ.at o0 = some (cu o0 ub0 v1)) (hi0:o0 < τ.next) (hw0:τ.lock ≤ o0) (Q:TEx → ak) (hQ0:∀ (fr:TF) (tk2:TK) (τ2:TH),∀ (ubx0:Bool),(ubx0 = true ∨ r.size = 0) → lkp fr 4 = .ptr o0 0 → tk2.take 0 = [] → τ2.cut τ.next = (τ.put o0 (cu o0 ubx0 r)) → Q (.exit 2) fr tk2 τ2) ,tW G (.loop [3,4,23] zbmj) Q [(3,.int .u64 v0),(4,.ptr o0 0),(23,.int .i64 v2)] [] τ
theorem zb8w (v0:Int) (v1:ByteArray) (v2:Int) (r:ByteArray) (h:qw v0 v1 v2 = some r):ql v0 v1 v2 r:=by
 refine ct (f:=fun st => d4 v0 st.1 st.2) (P:=fun st r => ∀ (v1:ByteArray) (v2:Int),(v1,v2) = st → ql v0 v1 v2 r) ?_ h v1 v2 rfl
 clear h r v2 v1
 intro st o h r ih v1 v2 hst τ o0  hl ub0 hub0 ha0 hi0 hw0 Q hQ0
 subst hst
 have h:d4 v0 v1 v2 = some o:=h
 unfold d4 at h
 refine qp fun LQ hn hr he => ?_
 by_cases c1:v2 < (8:Int)
 · rw [if_pos c1] at h
   obtain ⟨c2,h⟩:=ifS h
   obtain ⟨c3,h⟩:=ifS h
   have k4:=fun (id:Nat) (d:Option Nat) (K:ak) (fr:TF) (tk:TK) (τ:TH) (ha:τ.at id = some (cu id ub0 v1)) (hi:id < τ.next) (hw:τ.lock ≤ id) (hl:τ.lock ≤ τ.next) => zbzx v1 id ub0 d K fr tk τ ha hi hw hl (by first | exact .inl rfl | assumption) (IntKind.u8.wrap (Int.fdiv v0 (2 ^ (Nat.min (IntKind.i64.wrap ((56:Int) - (IntKind.i64.wrap ((8:Int) * v2)))).toNat IntKind.u64.bits)))) c3.1 c3.2.1 c3.2.2
   injection h with h; subst h
   have ih:=ih (v1.push (UInt8.ofNat (IntKind.u8.wrap (Int.fdiv v0 (2 ^ (Nat.min (IntKind.i64.wrap ((56:Int) - (IntKind.i64.wrap ((8:Int) * v2)))).toNat IntKind.u64.bits)))).toNat)) (IntKind.i64.wrap (v2 + (1:Int))) rfl
   unfold ql at ih
   simp -implicitDefEqProofs only [zbmj,il,TT,Ic.t,ci,reduceEqDiff,reduceIte,reduceAdd,reduceLT,reduceCtorEq,reduceToNat,hl,fh,ha0,hi0,hw0,c1,c2,c3,k4,CL,LTN]
   rw [hn]
   simp -implicitDefEqProofs only [TT,Ic.t,ci,reduceEqDiff,reduceIte,reduceAdd,reduceLT,reduceCtorEq,reduceToNat,hl,fh,ha0,hi0,hw0,c1,c2,c3,k4,CL,LTN]
   exact ih  (τ.put o0 (cu o0 true (v1.push (UInt8.ofNat (IntKind.u8.wrap (Int.fdiv v0 (2 ^ (Nat.min (IntKind.i64.wrap ((56:Int) - (IntKind.i64.wrap ((8:Int) * v2)))).toNat IntKind.u64.bits)))).toNat)))) o0   (by first | assumption | (simp only [aa,af]; assumption)) true (by first | exact .inl rfl | assumption) (by simp -implicitDefEqProofs only [TT,Ic.t,ci,reduceEqDiff,reduceIte,reduceAdd,reduceLT,reduceCtorEq,reduceToNat,hl,fh,ha0,hi0,hw0,c1,c2,c3,k4,CL,LTN]) (by first | assumption | (simp only [aa,af]; assumption)) (by first | assumption | (simp only [aa,af]; assumption)) Q (fun fr tk2 τ2 w0 w0' g0 ht hτ => hQ0 fr tk2 τ2 w0 w0' g0 ht (by first | exact hτ | simpa only [aa,zbbl,hl,fh,ha0,hi0,hw0] using hτ))
 rw [if_neg c1] at h
 injection h with h; subst h
 obtain rfl:_ = r:=ih
 simp -implicitDefEqProofs only [zbmj,il,TT,Ic.t,ci,reduceEqDiff,reduceIte,reduceAdd,reduceLT,reduceCtorEq,reduceToNat,hl,fh,ha0,hi0,hw0,he,hr,c1,CL,LTN]
 exact hQ0  _ _ _ ub0 (by first | exact .inl rfl | assumption) (by first | rfl | (simp -implicitDefEqProofs only [TT,Ic.t,ci,reduceEqDiff,reduceIte,reduceAdd,reduceLT,reduceCtorEq,reduceToNat,hl,fh,ha0,hi0,hw0,c1,CL,LTN])) (by first | rfl | (simp -implicitDefEqProofs only [TT,Ic.t,ci,reduceEqDiff,reduceIte,reduceAdd,reduceLT,reduceCtorEq,reduceToNat,hl,fh,ha0,hi0,hw0,c1,CL,LTN])) (by first | exact f0 (Nat.le_refl _) | (simp -implicitDefEqProofs only [TT,Ic.t,ci,reduceEqDiff,reduceIte,reduceAdd,reduceLT,reduceCtorEq,reduceToNat,hl,fh,ha0,hi0,hw0,kr ha0,c1,CL,LTN]))
def dz (v1:(List Int)) (v0:(List Int)) (v2:ByteArray):Option (LS ((List Int) × ByteArray) ((List Int))) :=
 if v2 = (⟨#[]⟩:ByteArray) then
  some (.dn v0)
 else
 if 0 ≤ (64:Int) ∧ (64:Int) ≤ (v2.size:Int) then
  jd v0 (v2.extract 0 64) v1 >>= fun y3 =>
  some (.nx (y3,(v2.extract 64 v2.size)))
 else
  none
def qv (v1:(List Int)) (v0:(List Int)) (v2:ByteArray):Option ((List Int)):=lf (fun st => dz v1 st.1 st.2) (v0,v2)
theorem zbz9 (v1:(List Int)) (v0:(List Int)) (v2:ByteArray):qv v1 v0 v2 = dz v1 v0 v2 >>= LS.go (fun st => qv v1 st.1 st.2):=dj (fun st => dz v1 st.1 st.2) (v0,v2)
def qk (v1:(List Int)) (v0:(List Int)) (v2:ByteArray) (r:(List Int)):Prop:=∀ (τ:TH) (o0:Nat) (o1:Nat) (hl:τ.lock ≤ τ.next) (ha0:τ.at o0 = some ⟨ew,List.map (TV.int .u32) v0⟩) (hi0:o0 < τ.next) (hw0:τ.lock ≤ o0) (ha1:τ.at o1 = some ⟨bd,List.map (TV.int .u32) v1⟩) (hi1:o1 < τ.next) (hn0_1:o0 ≠ o1) (Q:TEx → ak) (hQ0:∀ (fr:TF) (tk2:TK) (τ2:TH),lkp fr 6 = .ptr o0 0 → tk2.take 0 = [] → τ2.cut τ.next = (τ.put o0 ⟨ew,List.map (TV.int .u32) r⟩) → Q (.exit 4) fr tk2 τ2) ,tW G (.loop [6,7,8] zbmk) Q [(6,.ptr o0 0),(7,.ptr o1 0),(8,.str v2)] [] τ
theorem zb8x (v1:(List Int)) (v0:(List Int)) (v2:ByteArray) (r:(List Int)) (h:qv v1 v0 v2 = some r):qk v1 v0 v2 r:=by
 refine ct (f:=fun st => dz v1 st.1 st.2) (P:=fun st r => ∀ (v0:(List Int)) (v2:ByteArray),(v0,v2) = st → qk v1 v0 v2 r) ?_ h v0 v2 rfl
 clear h r v2 v0
 intro st o h r ih v0 v2 hst τ o0 o1  hl ha0 hi0 hw0 ha1 hi1 hn0_1 Q hQ0
 subst hst
 have h:dz v1 v0 v2 = some o:=h
 unfold dz at h
 refine qp fun LQ hn hr he => ?_
 by_cases c1:v2 = (⟨#[]⟩:ByteArray)
 · rw [if_pos c1] at h
   injection h with h; subst h
   obtain rfl:_ = r:=ih
   simp -implicitDefEqProofs only [zbmk,il,TT,Ic.t,ci,reduceEqDiff,reduceIte,reduceAdd,reduceLT,reduceCtorEq,reduceToNat,hl,ha0,hi0,hw0,ha1,hi1,nq hn0_1,he,hr,eq_true c1,CL,LTN]
   exact hQ0  _ _ _  (by first | rfl | (simp -implicitDefEqProofs only [TT,Ic.t,ci,reduceEqDiff,reduceIte,reduceAdd,reduceLT,reduceCtorEq,reduceToNat,hl,ha0,hi0,hw0,ha1,hi1,nq hn0_1,eq_true c1,CL,LTN])) (by first | rfl | (simp -implicitDefEqProofs only [TT,Ic.t,ci,reduceEqDiff,reduceIte,reduceAdd,reduceLT,reduceCtorEq,reduceToNat,hl,ha0,hi0,hw0,ha1,hi1,nq hn0_1,eq_true c1,CL,LTN])) (by first | exact f0 (Nat.le_refl _) | (simp -implicitDefEqProofs only [TT,Ic.t,ci,reduceEqDiff,reduceIte,reduceAdd,reduceLT,reduceCtorEq,reduceToNat,hl,ha0,hi0,hw0,ha1,hi1,nq hn0_1,kr ha0,eq_true c1,CL,LTN]))
 rw [if_neg c1] at h
 obtain ⟨c2,h⟩:=ifS h
 obtain ⟨y3,hy3,h⟩:=ob h
 have k4:=zca5 v0 (v2.extract 0 64) v1 _ hy3
 try simp only [CL,MC,reduceToNat] at k4
 injection h with h; subst h
 have ih:=ih y3 (v2.extract 64 v2.size) rfl
 unfold qk at ih
 simp -implicitDefEqProofs only [zbmk,il,TT,Ic.t,ci,reduceEqDiff,reduceIte,reduceAdd,reduceLT,reduceCtorEq,reduceToNat,hl,ha0,hi0,hw0,ha1,hi1,nq hn0_1,c1,c2,k4,CL,LTN]
 rw [hn]
 simp -implicitDefEqProofs only [TT,Ic.t,ci,reduceEqDiff,reduceIte,reduceAdd,reduceLT,reduceCtorEq,reduceToNat,hl,ha0,hi0,hw0,ha1,hi1,nq hn0_1,c1,c2,k4,CL,LTN]
 exact ih  (τ.put o0 ⟨ew,List.map (TV.int .u32) y3⟩) o0 o1   (by first | assumption | (simp only [aa,af]; assumption)) (by simp -implicitDefEqProofs only [TT,Ic.t,ci,reduceEqDiff,reduceIte,reduceAdd,reduceLT,reduceCtorEq,reduceToNat,hl,ha0,hi0,hw0,ha1,hi1,nq hn0_1,c1,c2,k4,CL,LTN]) (by first | assumption | (simp only [aa,af]; assumption)) (by first | assumption | (simp only [aa,af]; assumption)) (by simp -implicitDefEqProofs only [TT,Ic.t,ci,reduceEqDiff,reduceIte,reduceAdd,reduceLT,reduceCtorEq,reduceToNat,hl,ha0,hi0,hw0,ha1,hi1,nq hn0_1,c1,c2,k4,CL,LTN]) (by first | assumption | (simp only [aa,af]; assumption)) hn0_1 Q (fun fr tk2 τ2 g0 ht hτ => hQ0 fr tk2 τ2 g0 ht (by first | exact hτ | simpa only [aa,zbbl,hl,ha0,hi0,hw0,ha1,hi1,nq hn0_1] using hτ))
def dy (v1:(List Int)) (v0:(List Int)) (v2:Int):Option (LS ((List Int) × Int) ((List Int))) :=
 if v2 < (8:Int) then
  if 8 ≤ v1.length then
   if 0 ≤ v2 ∧ v2 < ((8:Nat):Int) then
    ixL v1 v2 >>= fun y4 =>
    if v0.length ≤ 140737488355324 then
     some (.nx ((v0 ++ [(IntKind.u8.wrap (Int.fdiv y4 (2 ^ (Nat.min 24 IntKind.u32.bits)))),(IntKind.u8.wrap (Int.fdiv y4 (2 ^ (Nat.min 16 IntKind.u32.bits)))),(IntKind.u8.wrap (Int.fdiv y4 (2 ^ (Nat.min 8 IntKind.u32.bits)))),(IntKind.u8.wrap y4)]),(IntKind.i64.wrap (v2 + (1:Int)))))
    else
     none
   else
    none
  else
   none
 else
 some (.dn v0)
def qu (v1:(List Int)) (v0:(List Int)) (v2:Int):Option ((List Int)):=lf (fun st => dy v1 st.1 st.2) (v0,v2)
theorem zb0a (v1:(List Int)) (v0:(List Int)) (v2:Int):qu v1 v0 v2 = dy v1 v0 v2 >>= LS.go (fun st => qu v1 st.1 st.2):=dj (fun st => dy v1 st.1 st.2) (v0,v2)
def qj (v1:(List Int)) (v0:(List Int)) (v2:Int) (r:(List Int)):Prop:=∀ (τ:TH) (n0:Nat) (ty0:TypeId) (hnn0:n0 = v0.length) (hty0:n0 = 0 ∨ ty0 = a9) (hl:τ.lock ≤ τ.next) (Q:TEx → ak) (hQ0:∀ (fr:TF) (tk2:TK) (τ2:TH),∀ (u0:TypeId),(r.length = 0 ∨ u0 = a9) → lkp fr 9 = .sla 0 (List.map (TV.int .u8) r) → tk2.take 1 = [some (r.length,u0)] → τ2.cut τ.next = τ → Q (.exit 6) fr tk2 τ2) ,tW G (.loop [9,45,46] ny) Q [(9,.sla 0 (List.map (TV.int .u8) v0)),(45,.agg (List.map (TV.int .u32) v1)),(46,.int .i64 v2)] [some (n0,ty0)] τ
theorem zb8y (v1:(List Int)) (v0:(List Int)) (v2:Int) (r:(List Int)) (h:qu v1 v0 v2 = some r):qj v1 v0 v2 r:=by
 refine ct (f:=fun st => dy v1 st.1 st.2) (P:=fun st r => ∀ (v0:(List Int)) (v2:Int),(v0,v2) = st → qj v1 v0 v2 r) ?_ h v0 v2 rfl
 clear h r v2 v0
 intro st o h r ih v0 v2 hst τ  n0 ty0 hnn0 hty0 hl Q hQ0
 subst hst
 have h:dy v1 v0 v2 = some o:=h
 unfold dy at h
 subst hnn0
 refine qp fun LQ hn hr he => ?_
 by_cases c1:v2 < (8:Int)
 · rw [if_pos c1] at h
   obtain ⟨c2,h⟩:=ifS h
   obtain ⟨c3,h⟩:=ifS h
   obtain ⟨y4,hy4,h⟩:=ob h
   have f5:=au hy4
   have f5a:=(f5.2.2 (TV.int .u32)).1
   have f5b:=(f5.2.2 (TV.int .u32)).2
   try simp only [CL,MC,reduceToNat] at f5 f5a f5b
   obtain ⟨c6,h⟩:=ifS h
   have f7:4 ≤ maxLen:=by unfold maxLen; omega
   have f8:v0.length + 4 ≤ maxLen:=by unfold maxLen; omega
   have f9:((List.map (TV.int .u8) v0).all fun e => e.cells.length == 1) = true:=zb6b (fun _ => rfl) _
   have f10:List.map (TV.int .u8) v0 ++ List.map (TV.int .u8) [(IntKind.u8.wrap (Int.fdiv y4 (2 ^ (Nat.min 24 IntKind.u32.bits)))),(IntKind.u8.wrap (Int.fdiv y4 (2 ^ (Nat.min 16 IntKind.u32.bits)))),(IntKind.u8.wrap (Int.fdiv y4 (2 ^ (Nat.min 8 IntKind.u32.bits)))),(IntKind.u8.wrap y4)] = List.map (TV.int .u8) (v0 ++ [(IntKind.u8.wrap (Int.fdiv y4 (2 ^ (Nat.min 24 IntKind.u32.bits)))),(IntKind.u8.wrap (Int.fdiv y4 (2 ^ (Nat.min 16 IntKind.u32.bits)))),(IntKind.u8.wrap (Int.fdiv y4 (2 ^ (Nat.min 8 IntKind.u32.bits)))),(IntKind.u8.wrap y4)]):=zb6a _ _
   try simp only [CL,List.map_cons,List.map_nil] at f10
   injection h with h; subst h
   have ih:=ih (v0 ++ [(IntKind.u8.wrap (Int.fdiv y4 (2 ^ (Nat.min 24 IntKind.u32.bits)))),(IntKind.u8.wrap (Int.fdiv y4 (2 ^ (Nat.min 16 IntKind.u32.bits)))),(IntKind.u8.wrap (Int.fdiv y4 (2 ^ (Nat.min 8 IntKind.u32.bits)))),(IntKind.u8.wrap y4)]) (IntKind.i64.wrap (v2 + (1:Int))) rfl
   unfold qj at ih
   simp -implicitDefEqProofs only [ny,il,TT,Ic.t,ci,reduceEqDiff,reduceIte,reduceAdd,reduceMul,reduceLT,reduceLeDiff,reduceSub,reduceCtorEq,reduceEq,reduceNe,reduceToNat,Int.reduceLT,reduceLE,reduceNeg,hl,hty0,c1,c2,c3,f5.1,f5.2.1,f5a,f5b,c6,f7,f8,f9,f10,CL,LTN]
   rw [hn]
   simp -implicitDefEqProofs only [TT,Ic.t,ci,reduceEqDiff,reduceIte,reduceAdd,reduceMul,reduceLT,reduceLeDiff,reduceSub,reduceCtorEq,reduceEq,reduceNe,reduceToNat,Int.reduceLT,reduceLE,reduceNeg,hl,hty0,c1,c2,c3,f5.1,f5.2.1,f5a,f5b,c6,f7,f8,f9,f10,CL,LTN]
   exact ih  τ   (v0.length + 4) a9 (by first | rfl | simp [aj]) (by first | exact hty0 | exact Or.inr rfl | assumption | simp) (by first | assumption | (simp only [aa,af]; assumption)) Q hQ0
 rw [if_neg c1] at h
 injection h with h; subst h
 obtain rfl:_ = r:=ih
 simp -implicitDefEqProofs only [ny,il,TT,Ic.t,ci,reduceEqDiff,reduceIte,reduceAdd,reduceMul,reduceLT,reduceLeDiff,reduceSub,reduceCtorEq,reduceEq,reduceNe,reduceToNat,Int.reduceLT,reduceLE,reduceNeg,hl,hty0,he,hr,c1,CL,LTN]
 exact hQ0  _ _ _ ty0 (by first | exact hty0 | exact Or.inr rfl | assumption | simp) (by first | rfl | (simp -implicitDefEqProofs only [TT,Ic.t,ci,reduceEqDiff,reduceIte,reduceAdd,reduceMul,reduceLT,reduceLeDiff,reduceSub,reduceCtorEq,reduceEq,reduceNe,reduceToNat,Int.reduceLT,reduceLE,reduceNeg,hl,hty0,c1,CL,LTN])) (by first | rfl | (simp -implicitDefEqProofs only [TT,Ic.t,ci,reduceEqDiff,reduceIte,reduceAdd,reduceMul,reduceLT,reduceLeDiff,reduceSub,reduceCtorEq,reduceEq,reduceNe,reduceToNat,Int.reduceLT,reduceLE,reduceNeg,hl,hty0,c1,CL,LTN])) (by first | exact f0 (Nat.le_refl _) | (simp -implicitDefEqProofs only [TT,Ic.t,ci,reduceEqDiff,reduceIte,reduceAdd,reduceMul,reduceLT,reduceLeDiff,reduceSub,reduceCtorEq,reduceEq,reduceNe,reduceToNat,Int.reduceLT,reduceLE,reduceNeg,hl,hty0,c1,CL,LTN]))
end
end Go.Proofs.Ytgkkienmocpnbaa
