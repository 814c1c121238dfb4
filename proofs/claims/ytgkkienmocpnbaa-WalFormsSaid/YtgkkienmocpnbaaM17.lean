import Derived.Test.YtgkkienmocpnbaaM13
import Derived.Test.YtgkkienmocpnbaaTcG
set_option linter.unusedVariables false
set_option linter.unusedSimpArgs false
set_option linter.unusedSectionVars false
namespace Go.Proofs.Ytgkkienmocpnbaa
open Go Go.RowKit Sh Ic
structure ac where
 s_:ByteArray
 bad_:Bool
def ac.cells (x:ac):List TV:=[.str x.s_,.bool x.bad_]
def ac.tv (x:ac):TV:=.agg x.cells
instance:Inhabited ac:=⟨⟨default,default⟩⟩
structure bq where
 S:ByteArray
 Bad:Bool
def bq.cells (x:bq):List TV:=[.str x.S,.bool x.Bad]
def bq.tv (x:bq):TV:=.agg x.cells
instance:Inhabited bq:=⟨⟨default,default⟩⟩
theorem CL:(((∀ x:ac,ac.cells x = [.str x.s_,.bool x.bad_]) ∧ (∀ x:ac,ac.tv x = .agg x.cells)) ∧ ((∀ x:bq,bq.cells x = [.str x.S,.bool x.Bad]) ∧ ((∀ x:bq,bq.tv x = .agg x.cells) ∧ (∀ x:ByteArray,az x = List.map (TV.int .u8) (bo x))))):=⟨⟨(fun _ => rfl),(fun _ => rfl)⟩,⟨(fun _ => rfl),⟨(fun _ => rfl),za99⟩⟩⟩
end Go.Proofs.Ytgkkienmocpnbaa
open Nat (reduceEqDiff reduceAdd reduceMul reduceLT reduceLeDiff reduceSub)
open Int (reduceToNat reduceNe reduceEq reduceNeg reduceLE)
namespace Go.Proofs.Ytgkkienmocpnbaa
open Go Go.RowKit Sh Ic
noncomputable def cz (v0:Int) (v2:Nat) (v3:Int) (v1:(List Int)) (v4:Int):Option (LS ((List Int) × Int) ((List Int))) :=
 if v4 < v3 then
  if ¬ (IntKind.i64.wrap ((8:Int) * (IntKind.i64.wrap ((7:Int) - v4)))) < 0 then
   if 0 ≤ v4 ∧ v4 < (v2:Int) then
    if v4.toNat + 1 ≤ v1.length then
     some (.nx ((v1.set v4.toNat (IntKind.u8.wrap (Int.fdiv v0 (2 ^ (Nat.min (IntKind.i64.wrap ((8:Int) * (IntKind.i64.wrap ((7:Int) - v4)))).toNat IntKind.i64.bits))))),(IntKind.i64.wrap (v4 + (1:Int)))))
    else
     none
   else
    none
  else
   none
 else
 some (.dn v1)
noncomputable def iq (v0:Int) (v2:Nat) (v3:Int) (v1:(List Int)) (v4:Int):Option ((List Int)):=lf (fun st => cz v0 v2 v3 st.1 st.2) (v1,v4)
theorem zb0s (v0:Int) (v2:Nat) (v3:Int) (v1:(List Int)) (v4:Int):iq v0 v2 v3 v1 v4 = cz v0 v2 v3 v1 v4 >>= LS.go (fun st => iq v0 v2 v3 st.1 st.2):=dj (fun st => cz v0 v2 v3 st.1 st.2) (v1,v4)
def nh (v0:Int) (v2:Nat) (v3:Int) (v1:(List Int)) (v4:Int) (r:(List Int)):Prop:=∀ (τ:TH) (o0:Nat) (hl:τ.lock ≤ τ.next) (ha0:τ.at o0 = some ⟨a9,List.map (TV.int .u8) v1⟩) (hi0:o0 < τ.next) (hw0:τ.lock ≤ o0) (Q:TEx → ak) (hQ0:∀ (fr:TF) (tk2:TK) (τ2:TH),lkp fr 3 = .slm o0 0 v2 1 → tk2.take 0 = [] → τ2.cut τ.next = (τ.put o0 ⟨a9,List.map (TV.int .u8) r⟩) → Q (.exit 0) fr tk2 τ2) ,tW G (.loop [0,3,7,8] tx) Q [(0,.int .i64 v0),(3,.slm o0 0 v2 1),(7,.int .i64 v3),(8,.int .i64 v4)] [] τ
theorem zb9w (v0:Int) (v2:Nat) (v3:Int) (v1:(List Int)) (v4:Int) (r:(List Int)) (h:iq v0 v2 v3 v1 v4 = some r):nh v0 v2 v3 v1 v4 r:=by
 refine ct (f:=fun st => cz v0 v2 v3 st.1 st.2) (P:=fun st r => ∀ (v1:(List Int)) (v4:Int),(v1,v4) = st → nh v0 v2 v3 v1 v4 r) ?_ h v1 v4 rfl
 clear h r v4 v1
 intro st o h r ih v1 v4 hst τ o0  hl ha0 hi0 hw0 Q hQ0
 subst hst
 have h:cz v0 v2 v3 v1 v4 = some o:=h
 unfold cz at h
 refine qp fun LQ hn hr he => ?_
 by_cases c1:v4 < v3
 · rw [if_pos c1] at h
   obtain ⟨c2,h⟩:=ifS h
   obtain ⟨c3,h⟩:=ifS h
   obtain ⟨c4,h⟩:=ifS h
   have f5:(List.map (TV.int .u8) v1).set v4.toNat (.int .u8 (IntKind.u8.wrap (Int.fdiv v0 (2 ^ (Nat.min (IntKind.i64.wrap ((8:Int) * (IntKind.i64.wrap ((7:Int) - v4)))).toNat IntKind.i64.bits))))) = List.map (TV.int .u8) (v1.set v4.toNat (IntKind.u8.wrap (Int.fdiv v0 (2 ^ (Nat.min (IntKind.i64.wrap ((8:Int) * (IntKind.i64.wrap ((7:Int) - v4)))).toNat IntKind.i64.bits))))):=zbj4 (enc:=(TV.int .u8)) _ _ _
   injection h with h; subst h
   have ih:=ih (v1.set v4.toNat (IntKind.u8.wrap (Int.fdiv v0 (2 ^ (Nat.min (IntKind.i64.wrap ((8:Int) * (IntKind.i64.wrap ((7:Int) - v4)))).toNat IntKind.i64.bits))))) (IntKind.i64.wrap (v4 + (1:Int))) rfl
   unfold nh at ih
   simp -implicitDefEqProofs only [tx,zbml,TT,Ic.t,ci,reduceEqDiff,reduceIte,reduceAdd,reduceLT,reduceCtorEq,reduceToNat,hl,ha0,hi0,hw0,c1,c2,c3,c4,f5,CL,LTN]
   rw [hn]
   simp -implicitDefEqProofs only [TT,Ic.t,ci,reduceEqDiff,reduceIte,reduceAdd,reduceLT,reduceCtorEq,reduceToNat,hl,ha0,hi0,hw0,c1,c2,c3,c4,f5,CL,LTN]
   exact ih  (τ.put o0 ⟨a9,List.map (TV.int .u8) (v1.set v4.toNat (IntKind.u8.wrap (Int.fdiv v0 (2 ^ (Nat.min (IntKind.i64.wrap ((8:Int) * (IntKind.i64.wrap ((7:Int) - v4)))).toNat IntKind.i64.bits)))))⟩) o0   (by first | assumption | (simp only [aa,af]; assumption)) (by simp -implicitDefEqProofs only [TT,Ic.t,ci,reduceEqDiff,reduceIte,reduceAdd,reduceLT,reduceCtorEq,reduceToNat,hl,ha0,hi0,hw0,c1,c2,c3,c4,f5,CL,LTN]) (by first | assumption | (simp only [aa,af]; assumption)) (by first | assumption | (simp only [aa,af]; assumption)) Q (fun fr tk2 τ2 g0 ht hτ => hQ0 fr tk2 τ2 g0 ht (by first | exact hτ | simpa only [aa,zbbl,hl,ha0,hi0,hw0] using hτ))
 rw [if_neg c1] at h
 injection h with h; subst h
 obtain rfl:_ = r:=ih
 simp -implicitDefEqProofs only [tx,zbml,TT,Ic.t,ci,reduceEqDiff,reduceIte,reduceAdd,reduceLT,reduceCtorEq,reduceToNat,hl,ha0,hi0,hw0,he,hr,c1,CL,LTN]
 exact hQ0  _ _ _  (by first | rfl | (simp -implicitDefEqProofs only [TT,Ic.t,ci,reduceEqDiff,reduceIte,reduceAdd,reduceLT,reduceCtorEq,reduceToNat,hl,ha0,hi0,hw0,c1,CL,LTN])) (by first | rfl | (simp -implicitDefEqProofs only [TT,Ic.t,ci,reduceEqDiff,reduceIte,reduceAdd,reduceLT,reduceCtorEq,reduceToNat,hl,ha0,hi0,hw0,c1,CL,LTN])) (by first | exact f0 (Nat.le_refl _) | (simp -implicitDefEqProofs only [TT,Ic.t,ci,reduceEqDiff,reduceIte,reduceAdd,reduceLT,reduceCtorEq,reduceToNat,hl,ha0,hi0,hw0,kr ha0,c1,CL,LTN]))
noncomputable def pt (p1:Int):Option ByteArray :=
 iq p1 8 ((8:Nat):Int) (List.replicate 8 (0:Int)) (0:Int) >>= fun y3 =>
 if y3.length = 8 then
  some (ox y3)
 else
  none
theorem zby8 (p1:Int) (r:ByteArray) (h:pt p1 = some r) (τ:TH) (hl:τ.lock ≤ τ.next):Ru G qd [.int .i64 p1] τ (.str r) τ:=by
 refine jn fun K hK => ?_
 rw [cb zcey (Nat.le_of_ble_eq_true rfl)]
 unfold pt at h
 have f1:(8:Int) * ((1:Nat):Int) ≤ 140737488355328:=by decide
 have f2:(List.replicate 8 [.int .u8 (0:Int)]).flatten = List.map (TV.int .u8) (List.replicate 8 (0:Int)):=zbcm (enc:=(TV.int .u8)) _ _
 obtain ⟨y3,hy3,h⟩:=ob h
 simp -implicitDefEqProofs only [zbml,TT,Ic.t,ci,reduceEqDiff,reduceIte,reduceAdd,reduceMul,reduceLT,reduceLeDiff,reduceSub,reduceCtorEq,reduceEq,reduceNe,reduceToNat,Int.reduceLT,reduceLE,reduceNeg,hl,f1,f2,CL,LTN]
 have Sy3:=zb9w p1 8 ((8:Nat):Int) (List.replicate 8 (0:Int)) (0:Int) y3 hy3
 unfold nh at Sy3
 refine Sy3 _ τ.next (by first | assumption | omega | (simp only [aa,ag,af,ar]; omega)) (by first | (simp -implicitDefEqProofs only [TT,Ic.t,ci,reduceEqDiff,reduceIte,reduceAdd,reduceMul,reduceLT,reduceLeDiff,reduceSub,reduceCtorEq,reduceEq,reduceNe,reduceToNat,Int.reduceLT,reduceLE,reduceNeg,hl,f1,f2,CL,LTN]; done) | (simp -implicitDefEqProofs only [TT,Ic.t,ci,reduceEqDiff,reduceIte,reduceAdd,reduceMul,reduceLT,reduceLeDiff,reduceSub,reduceCtorEq,reduceEq,reduceNe,reduceToNat,Int.reduceLT,reduceLE,reduceNeg,hl,f1,f2,CL,LTN]; rfl)) (by first | assumption | omega | (simp only [aa,ag,af,ar]; omega)) (by first | assumption | omega | (simp only [aa,ag,af,ar]; omega)) _ ?_
 intro frq4 tkq4 τq4 g3q4 htq4 hcq4
 have hcq4:=cn (n:=τ.next + 1) hcq4 (by first | omega | (simp only [aa,ag]; omega))
 try simp only [List.take_succ_cons,List.take_zero,List.take_nil,CL] at htq4
 try simp -implicitDefEqProofs only [TT,Ic.t,ci,reduceEqDiff,reduceIte,reduceAdd,reduceMul,reduceLT,reduceLeDiff,reduceSub,reduceCtorEq,reduceEq,reduceNe,reduceToNat,Int.reduceLT,reduceLE,reduceNeg,hl,f1,f2,CL,LTN] at hcq4
 obtain ⟨c5,h⟩:=ifS h
 have f6:8 ≤ y3.length:=Nat.le_of_eq (Eq.symm c5)
 have f7:List.take 8 (List.map (TV.int .u8) y3) = List.map (TV.int .u8) y3:=zbox c5
 injection h with h; subst h
 simp -implicitDefEqProofs only [zbml,TT,Ic.t,ci,reduceEqDiff,reduceIte,reduceAdd,reduceMul,reduceLT,reduceLeDiff,reduceSub,reduceCtorEq,reduceEq,reduceNe,reduceToNat,Int.reduceLT,reduceLE,reduceNeg,hl,f1,f2,g3q4,htq4,hcq4,eq_true c5,f6,f7,CL,LTN]
 exact hK
theorem zb78 (p1:Int) (r:ByteArray) (h:pt p1 = some r) (lk:Bool) (d:Option Nat) (K:ak) (fr:TF) (tk:TK) (τ:TH) (hl:τ.lock ≤ τ.next):d9 G lk qd [.int .i64 p1] d K fr tk τ = K (dh fr d (.str r)) tk τ :=
 b9 (zby8 p1 r h τ  hl) (zby8 p1 r h (τ.locked τ.next)  (Nat.le_refl _) ) (by simp -implicitDefEqProofs only [TT,Ic.t,ci,reduceEqDiff,reduceIte,reduceAdd,reduceLT,reduceCtorEq,reduceToNat,hl,CL,LTN])
noncomputable def om (p1:ByteArray):Option ByteArray :=
 pt ((p1.size:Nat):Int) >>= fun y1 =>
 if ¬ (9223372036854775807 < ((y1.size + p1.size:Nat):Int)) then
  some (y1 ++ p1)
 else
  none
theorem zbz1 (p1:ByteArray) (r:ByteArray) (h:om p1 = some r) (τ:TH) (hl:τ.lock ≤ τ.next):Ru G ou [.str p1] τ (.str r) τ:=by
 refine jn fun K hK => ?_
 rw [cb zb7l (Nat.le_of_ble_eq_true rfl)]
 unfold om at h
 obtain ⟨y1,hy1,h⟩:=ob h
 have k2:=zb78 ((p1.size:Nat):Int) _ hy1
 try simp only [CL,MC,reduceToNat] at k2
 obtain ⟨c3,h⟩:=ifS h
 injection h with h; subst h
 simp -implicitDefEqProofs only [zb7f,TT,Ic.t,ci,reduceEqDiff,reduceIte,reduceAdd,reduceLT,reduceCtorEq,reduceToNat,hl,k2,c3,CL,LTN]
 exact hK
theorem zb84 (p1:ByteArray) (r:ByteArray) (h:om p1 = some r) (lk:Bool) (d:Option Nat) (K:ak) (fr:TF) (tk:TK) (τ:TH) (hl:τ.lock ≤ τ.next):d9 G lk ou [.str p1] d K fr tk τ = K (dh fr d (.str r)) tk τ :=
 b9 (zbz1 p1 r h τ  hl) (zbz1 p1 r h (τ.locked τ.next)  (Nat.le_refl _) ) (by simp -implicitDefEqProofs only [TT,Ic.t,ci,reduceEqDiff,reduceIte,reduceAdd,reduceLT,reduceCtorEq,reduceToNat,hl,CL,LTN])
end Go.Proofs.Ytgkkienmocpnbaa
open Nat (reduceEqDiff reduceAdd reduceMul reduceLT reduceLeDiff reduceSub)
open Int (reduceToNat reduceNe reduceEq reduceNeg reduceLE)
namespace Go.Proofs.Ytgkkienmocpnbaa
open Go Go.RowKit Sh Ic
def cu (id:Nat) (u:Bool) (b:ByteArray):Ob:=⟨aw,bif u then [.ptr id 0,.slo a9 (az b)] else [.nilP,.slz]⟩
theorem zb81 (a b:ByteArray):az (a ++ b) = az a ++ az b:=by
 unfold az
 rw [ByteArray.data_append]
 simp
theorem pu (a:ByteArray):(az a).length = a.size:=by unfold az; simp
theorem zceo (a:ByteArray):((az a).all fun e => e.cells.length == 1 && e.pure) = true:=by
 unfold az; rw [List.all_map,List.all_eq_true]; intro x _; rfl
theorem zbyb (a:ByteArray):((az a).all fun e => e.cells.length == 1) = true:=by
 unfold az; rw [List.all_map,List.all_eq_true]; intro x _; rfl
theorem nk (a:ByteArray):(az a).all okB = true:=by
 unfold az; rw [List.all_map,List.all_eq_true]; intro x _
 have:=x.toNat_lt
 simp only [Function.comp,okB,Bool.and_eq_true,decide_eq_true_eq]
 omega
theorem zb71 (a:ByteArray):mo (az a) = some a.data.toList:=by
 have:∀ l:List UInt8,mo (l.map fun b => TV.int .u8 b.toNat) = some l:=fun l => by
  induction l with
  | nil => rfl
  | cons b r ih => simp only [List.map_cons,mo,ih,Option.map_some]; simp
 exact this _
theorem zbon {a:ByteArray} (h:a.size = 0):az a = []:=List.eq_nil_of_length_eq_zero (by rw [pu,h])
theorem zbms (id:Nat) (c0 c1:TV) (d:Option Nat) (K:ak) (fr:TF) (tk:TK) (τ:TH) (ha:τ.at id = some ⟨aw,[c0,c1]⟩) (hi:id < τ.next) (hw:τ.lock ≤ id) (hc:c0 = .nilP ∨ c0 = .ptr id 0) :
 d9 G false be [.ptr id 0] d K fr tk τ = K (dh fr d (.tup [])) tk (τ.put id ⟨aw,[.ptr id 0,c1]⟩):=by
 refine iy (zbpj vc ?_) (by simp -implicitDefEqProofs only [TT,Ic.t,ci,reduceEqDiff,reduceIte,reduceAdd,reduceLT,reduceCtorEq,reduceToNat,hi])
 rcases hc with rfl | rfl
 · simp only [zbh1,ha,Option.bind_some,true_and,if_true,hw]
 · simp only [zbh1,ha,Option.bind_some,true_and,if_true,kr ha]
theorem zbfu (id:Nat) (b:ByteArray):cu id true b = ⟨aw,[.ptr id 0,.slo a9 (az b)]⟩:=rfl
theorem fh (id:Nat) (b:ByteArray):cu id false b = ⟨aw,[.nilP,.slz]⟩:=rfl
section
variable (b:ByteArray) (id:Nat) (u:Bool) (d:Option Nat) (K:ak) (fr:TF) (tk:TK) (τ:TH) (ha:τ.at id = some (cu id u b)) (hi:id < τ.next) (hw:τ.lock ≤ id) (hl:τ.lock ≤ τ.next) (hu:u = true ∨ b.size = 0)
include ha hi hw hl hu
theorem zbyw (s:ByteArray) (hb:b.size + s.size ≤ 140737488355328):d9 G false bg [.ptr id 0,.str s] d K fr tk τ = K (dh fr d (.tup [.int .i64 ((s.size:Nat):Int),.nilI])) tk (τ.put id (cu id true (b ++ s))):=by
 refine iy (jn fun K hK => ?_) (by simp -implicitDefEqProofs only [TT,Ic.t,ci,reduceEqDiff,reduceIte,reduceAdd,reduceLT,reduceCtorEq,reduceToNat,hi])
 rw [cb sn (Nat.le_of_ble_eq_true rfl)]
 have m1:s.size ≤ 140737488355328:=by omega
 have m2:s.size ≤ maxLen:=by unfold maxLen; omega
 have m4:b.size + s.size ≤ maxLen:=by unfold maxLen; omega
 have al:=zceo s
 have al1:=zbyb b
 have bl:=pu
 rw [zbfu,zb81] at hK
 cases u with
 | true =>
  rw [zbfu] at ha
  have ck:=fun (c0 c1:TV) (d:Option Nat) (K:ak) (fr:TF) (tk:TK) (h:c0 = .nilP ∨ c0 = .ptr id 0) (h2:τ.at id = some ⟨aw,[c0,c1]⟩) => zbms id c0 c1 d K fr tk τ h2 hi hw h
  have ck:=fun (d:Option Nat) (K:ak) (fr:TF) (tk:TK) => ck _ _ d K fr tk (.inr rfl) ha
  simp -implicitDefEqProofs only [kh,TT,Ic.t,ci,reduceEqDiff,reduceIte,reduceAdd,reduceLT,reduceCtorEq,reduceToNat,ha,hi,hw,hl,ck,al,al1,bl,m1,m2,hb,m4,or_true,true_or]
  exact hK
 | false =>
  rw [fh] at ha
  have hb0:b.size = 0:=hu.resolve_left (by simp)
  rw [zbon hb0,List.nil_append] at hK
  have ck:=fun (c0 c1:TV) (d:Option Nat) (K:ak) (fr:TF) (tk:TK) (h:c0 = .nilP ∨ c0 = .ptr id 0) (h2:τ.at id = some ⟨aw,[c0,c1]⟩) => zbms id c0 c1 d K fr tk τ h2 hi hw h
  have ck:=fun (d:Option Nat) (K:ak) (fr:TF) (tk:TK) => ck _ _ d K fr tk (.inl rfl) ha
  simp -implicitDefEqProofs only [kh,TT,Ic.t,ci,reduceEqDiff,reduceIte,reduceAdd,reduceLT,reduceCtorEq,reduceToNat,ha,hi,hw,hl,ck,al,al1,bl,m1,m2,hb,m4,or_true,true_or]
  exact hK
theorem zbgt (c:Int) (h0:0 ≤ c) (h1:c < 256):az (b.push (UInt8.ofNat c.toNat)) = az b ++ [.int .u8 c]:=by
 unfold az
 have e:((UInt8.ofNat c.toNat).toNat:Int) = c:=by rw [UInt8.toNat_ofNat']; omega
 simp only [ByteArray.push,Array.toList_push,List.map_append,List.map_cons,List.map_nil,e]
theorem zbzx (c:Int) (h0:0 ≤ c) (h1:c < 256) (hb:b.size + 1 ≤ 140737488355328):d9 G false bp [.ptr id 0,.int .u8 c] d K fr tk τ = K (dh fr d .nilI) tk (τ.put id (cu id true (b.push (UInt8.ofNat c.toNat)))):=by
 refine iy (jn fun K hK => ?_) (by simp -implicitDefEqProofs only [TT,Ic.t,ci,reduceEqDiff,reduceIte,reduceAdd,reduceMul,reduceLT,reduceLeDiff,reduceSub,reduceCtorEq,reduceEq,reduceNe,reduceToNat,Int.reduceLT,reduceLE,reduceNeg,hi])
 rw [cb vd (Nat.le_of_ble_eq_true rfl)]
 have m2:1 ≤ maxLen:=by unfold maxLen; omega
 have m4:b.size + 1 ≤ maxLen:=by unfold maxLen; omega
 have al1:=zbyb b
 have bl:=pu
 rw [zbfu,zbgt b id u τ ha hi hw hl hu c h0 h1] at hK
 cases u with
 | true =>
  rw [zbfu] at ha
  have ck:=fun (d:Option Nat) (K:ak) (fr:TF) (tk:TK) => zbms id _ _ d K fr tk τ ha hi hw (.inr rfl)
  simp -implicitDefEqProofs only [lp,TT,Ic.t,ci,reduceEqDiff,reduceIte,reduceAdd,reduceMul,reduceLT,reduceLeDiff,reduceSub,reduceCtorEq,reduceEq,reduceNe,reduceToNat,Int.reduceLT,reduceLE,reduceNeg,ha,hi,hw,hl,ck,al1,bl,m2,hb,m4,or_true,true_or]
  exact hK
 | false =>
  rw [fh] at ha
  have hb0:b.size = 0:=hu.resolve_left (by simp)
  rw [zbon hb0,List.nil_append] at hK
  have ck:=fun (d:Option Nat) (K:ak) (fr:TF) (tk:TK) => zbms id _ _ d K fr tk τ ha hi hw (.inl rfl)
  simp -implicitDefEqProofs only [lp,TT,Ic.t,ci,reduceEqDiff,reduceIte,reduceAdd,reduceMul,reduceLT,reduceLeDiff,reduceSub,reduceCtorEq,reduceEq,reduceNe,reduceToNat,Int.reduceLT,reduceLE,reduceNeg,ha,hi,hw,hl,ck,al1,bl,m2,hb,m4,or_true,true_or]
  exact hK
omit hw in
theorem zbqs (lk:Bool):d9 G lk en [.ptr id 0] d K fr tk τ = K (dh fr d (.int .i64 ((b.size:Nat):Int))) tk τ:=by
 have run:∀ τ:TH,τ.at id = some (cu id u b) → τ.lock ≤ τ.next → id < τ.next → Ru G en [.ptr id 0] τ (.int .i64 ((b.size:Nat):Int)) τ:=fun τ ha hl hi => by
  refine jn fun K hK => ?_
  rw [cb zcdg (Nat.le_of_ble_eq_true rfl)]
  have bl:=pu
  cases u with
  | true =>
   rw [zbfu] at ha
   simp -implicitDefEqProofs only [ry,TT,Ic.t,ci,reduceEqDiff,reduceIte,reduceAdd,reduceLT,reduceCtorEq,reduceToNat,ha,hi,hl,bl]
   exact hK
  | false =>
   rw [fh] at ha
   have hb0:b.size = 0:=hu.resolve_left (by simp)
   rw [hb0] at hK
   simp -implicitDefEqProofs only [ry,TT,Ic.t,ci,reduceEqDiff,reduceIte,reduceAdd,reduceLT,reduceCtorEq,reduceToNat,ha,hi,hl,bl]
   exact hK
 exact b9 (run τ ha hl hi) (run _ (by rw [zbhp]; exact ha) (Nat.le_refl _) hi) (by simp -implicitDefEqProofs only [TT,Ic.t,ci,reduceEqDiff,reduceIte,reduceAdd,reduceLT,reduceCtorEq,reduceToNat,hi])
def zb59 (id:Nat) (u:Bool) (b:ByteArray):Ob:=if b.size = 0 then cu id u b else ⟨aw,[.ptr id 0,.sl (az b)]⟩
theorem zceh (hb:b.size ≤ 140737488355328):d9 G false bf [.ptr id 0] d K fr tk τ = K (dh fr d (.str b)) tk (τ.put id (zb59 id u b)):=by
 refine iy (zbpj zcef ?_) (by simp -implicitDefEqProofs only [TT,Ic.t,ci,reduceEqDiff,reduceIte,reduceAdd,reduceLT,reduceCtorEq,reduceToNat,hi])
 have hm:(az b).length ≤ maxLen:=by rw [pu]; unfold maxLen; omega
 have e0:b.size = 0 → b = ⟨#[]⟩:=fun h => by
  cases b with
  | mk a => congr 1; exact Array.eq_empty_of_size_eq_zero h
 unfold zb59
 cases u with
 | true =>
  rw [zbfu] at ha
  by_cases h0:b.size = 0
  · rw [if_pos h0,kr (by rw [ha,zbfu]),e0 h0]
    rw [zbon h0] at ha
    simp only [zbf0,ha,Option.bind_some,true_and,if_true,hw]
    try rfl
  · have hne:¬ az b = []:=fun h => h0 (by rw [← pu,h]; rfl)
    rw [if_neg h0]
    simp only [zbf0,ha,Option.bind_some,and_self,if_true,hw,hm,nk,if_neg hne,zb71,Option.map_some]
    try rfl
 | false =>
  have hb0:b.size = 0:=hu.resolve_left (by simp)
  rw [if_pos hb0,kr ha,e0 hb0]
  rw [fh] at ha
  simp only [zbf0,ha,Option.bind_some,true_and,if_true]
  try rfl
end
section
variable (id:Nat) (d:Option Nat) (K:ak) (fr:TF) (tk:TK) (τ:TH) (ha:τ.at id = some (cu id false ⟨#[]⟩)) (hi:id < τ.next) (hw:τ.lock ≤ id) (hl:τ.lock ≤ τ.next)
include ha hi hw hl
theorem zb80 (s:ByteArray) (hb:s.size ≤ 140737488355328):d9 G false bg [.ptr id 0,.str s] d K fr tk τ = K (dh fr d (.tup [.int .i64 ((s.size:Nat):Int),.nilI])) tk (τ.put id (cu id true s)):=by
 have h:=zbyw ⟨#[]⟩ id false d K fr tk τ ha hi hw hl (.inr rfl) s (by show 0 + s.size ≤ _; omega)
 have e:(⟨#[]⟩:ByteArray) ++ s = s:=ByteArray.empty_append
 rwa [e] at h
end
end Go.Proofs.Ytgkkienmocpnbaa
