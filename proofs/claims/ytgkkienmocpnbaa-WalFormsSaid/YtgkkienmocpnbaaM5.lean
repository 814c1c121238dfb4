import Derived.Test.YtgkkienmocpnbaaSh6
import Derived.RowKit3
import Derived.Scope
set_option linter.unusedVariables false
set_option linter.unusedSimpArgs false
namespace Go.Proofs.Ytgkkienmocpnbaa.Sh
open Go Go.RowKit
inductive R where
 | tmp (t:Nat)
 | cell1 (t:Nat)
 | cellN (t n:Nat)
def zbcp (P:Program) (N:Nat):ResultVar → Option R
 | .tmp t => if t < N then some (.tmp t) else none
 | .cell t ty => if t < N then
  match rz P ty,szT P ty with
  | some true,some n => some (.cellN t n)
  | some false,some _ => some (.cell1 t)
  | _,_ => none
  else none
def zbhu (P:Program) (N:Nat):List ResultVar → Option (List R)
 | [] => some []
 | r :: l => match zbcp P N r,zbhu P N l with
  | some x,some y => some (x :: y)
  | _,_ => none
def zbcx (v:Value) (f:Addr → Option Value):Option Value:=match v with | .pointer (some a) => f a | _ => none
def ug (fr:Fr) (σ:ah):R → Option Value
 | .tmp t => some (fr t)
 | .cell1 t => zbcx (fr t) fun a => σ.load a.block a.off
 | .cellN t n => zbcx (fr t) fun a => (σ.row a.block a.off n).map fun l => .agg l.toArray
def ux (fr:Fr) (σ:ah):List R → Option (List Value)
 | [] => some []
 | r :: l => match ug fr σ r,ux fr σ l with
  | some x,some y => some (x :: y)
  | _,_ => none
def zbd4 (rs:List R) (fr:Fr) (σ:ah) (K:Value → Prop):Prop :=
 match rs with
 | [r] => mq (ug fr σ r) K
 | rs => mq (ux fr σ rs) fun l => K (.tuple l.toArray)
def zbct (rs:List R) (Post:Value → ah → Prop):Exit → Fr → ah → Prop
 | .normal => fun fr σ => zbd4 rs fr σ fun v => Post v σ
 | .ret => fun fr σ => zbd4 rs fr σ fun v => Post v σ
 | _ => fun _ _ => False
def nn (args:List Value):Fr:=fun t => args.getD t undef
section
variable {P:Program} {N:Nat} {B:Nat} {w0:World} {σ:ah} {m:Mp} {w:World} {fr:Fr} {a:Act}
def zbim (tmps:Array Value):ResultVar → Sem Value
 | .tmp t => pure (tmps.getD t undef)
 | .cell t ty => do loadVar ty (← asAddr (tmps.getD t undef))
theorem jo (fn:Func) (tmps:Array Value):results fn tmps = (do let vs ← fn.results.mapM (zbim tmps); pure (if h:vs.size = 1 then vs[0] else .tuple vs)):=rfl
theorem jz {r:ResultVar} {x:R} (hc:zbcp P N r = some x) (h:Rep B w0 σ m w) (hf:gg m N fr a) {v:Value} (hv:ug fr σ x = some v) :
 ∃ c,(zbim a.tmps r).run P w = .ok c w ∧ bm m v c:=by
 cases r with
 | tmp t =>
  simp only [zbcp] at hc
  split at hc
  · rename_i ht
    injection hc with hc; subst hc
    simp only [ug] at hv
    injection hv with hv; subst hv
    exact ⟨_,rfl,hf.at_ t ht⟩
  · cases hc
 | cell t ty =>
  simp only [zbcp] at hc
  split at hc
  · rename_i ht
    have hp:=hf.at_ t ht
    split at hc
    · rename_i n ha hn
      injection hc with hc; subst hc
      simp only [ug] at hv
      simp only [zbim]
      generalize a.tmps.getD t undef = c at hp ⊢
      generalize fr t = q at hp hv
      cases hp with
      | ptr i o hi =>
       simp only [zbcx] at hv
       cases hl:σ.row i o n with
       | none => rw [hl] at hv; cases hv
       | some l =>
        rw [hl] at hv
        injection hv with hv; subst hv
        obtain ⟨cs,h1,h2,h3,_⟩:=h.row P (by rw [← h.next]; exact hi) hl
        refine ⟨.agg cs.toArray,?_,.agg _ _ (by simpa using h1.symm) fun j hj => ?_⟩
        · simp only [asAddr,loadVar,Sem.run_bind,Sem.run_pure,Result.andThen_ok,od ha,if_true,nv hn,h2]
        · rw [bh,bh]; exact h3 j (by simpa using hj)
      | _ => simp [zbcx] at hv
    · rename_i n ha hn
      injection hc with hc; subst hc
      simp only [ug] at hv
      simp only [zbim]
      generalize a.tmps.getD t undef = c at hp ⊢
      generalize fr t = q at hp hv
      cases hp with
      | ptr i o hi =>
       simp only [zbcx] at hv
       obtain ⟨cc,h1,h2,h3⟩:=h.cell (by rw [← h.next]; exact hi) hv
       exact ⟨cc,by simp only [asAddr,loadVar,Sem.run_bind,Sem.run_pure,Result.andThen_ok,od ha,Bool.false_eq_true,if_false,run_load,h1],h2⟩
      | _ => simp [zbcx] at hv
    · cases hc
  · cases hc
theorem zcfi {rs:List ResultVar}:∀ {xs:List R},zbhu P N rs = some xs → Rep B w0 σ m w → gg m N fr a → ∀ {vs:List Value},ux fr σ xs = some vs →
 ∃ cs:List Value,(rs.mapM (zbim a.tmps)).run P w = .ok cs w ∧ cs.length = vs.length ∧ ∀ i,i < vs.length → bm m (vs.getD i undef) (cs.getD i undef):=by
 induction rs with
 | nil =>
  intro xs hc h hf vs hv
  injection hc with hc; subst hc
  injection hv with hv; subst hv
  exact ⟨[],by simp,rfl,fun i hi => by simp at hi⟩
 | cons r l ih =>
  intro xs hc h hf vs hv
  simp only [zbhu] at hc
  split at hc
  · rename_i x y hx hy
    injection hc with hc; subst hc
    simp only [ux] at hv
    split at hv
    · rename_i v1 v2 h1 h2
      injection hv with hv; subst hv
      obtain ⟨c,r1,r2⟩:=jz hx h hf h1
      obtain ⟨cs,r3,r4,r5⟩:=ih hy h hf h2
      refine ⟨c :: cs,?_,by simp [r4],fun i hi => ?_⟩
      · simp only [List.mapM_cons,Sem.run_bind,r1,Result.andThen_ok]
        rw [r3]
        simp
      · cases i with
        | zero => simpa [List.getD] using r2
        | succ i => simpa [List.getD] using r5 i (by simpa using hi)
    · cases hv
  · cases hc
theorem zbxz {fn:Func} {xs:List R} (hc:zbhu P N fn.results.toList = some xs) (h:Rep B w0 σ m w) (hf:gg m N fr a) {K:Value → Prop} (hK:zbd4 xs fr σ K) :
 ∃ v c,(results fn a.tmps).run P w = .ok c w ∧ bm m v c ∧ K v:=by
 have hl:∃ vs,ux fr σ xs = some vs ∧ K (if h:vs.length = 1 then vs[0] else .tuple vs.toArray):=by
  unfold zbd4 at hK
  split at hK
  · rename_i r
    cases ho:ug fr σ r with
    | none => rw [ho] at hK; exact hK.elim
    | some v => rw [ho] at hK; exact ⟨[v],by simp [ux,ho],hK⟩
  · rename_i hne
    cases ho:ux fr σ xs with
    | none => rw [ho] at hK; exact hK.elim
    | some vs =>
     rw [ho] at hK
     refine ⟨vs,rfl,?_⟩
     have hn:vs.length ≠ 1:=fun e => by
      cases xs with
      | nil => injection ho with ho; subst ho; simp at e
      | cons r l =>
       cases l with
       | nil => exact hne r rfl
       | cons r2 l2 =>
        simp only [ux] at ho
        split at ho
        · rename_i a1 a2 e1 e2
          split at e2
          · injection e2 with e2; subst e2; injection ho with ho; subst ho; simp at e
          · cases e2
        · cases ho
     rw [dif_neg hn]
     exact hK
 obtain ⟨vs,hvs,hKv⟩:=hl
 obtain ⟨cs,r1,r2,r3⟩:=zcfi hc h hf hvs
 refine ⟨_,(if h:cs.length = 1 then cs[0] else .tuple cs.toArray),?_,?_,hKv⟩
 · rw [jo,Array.mapM_eq_mapM_toList]
   simp only [Sem.run_bind,Sem.run_map,r1,Result.andThen_ok,Sem.run_pure]
   simp
 · by_cases h1:vs.length = 1
   · rw [dif_pos h1,dif_pos (by omega)]
     have:=r3 0 (by omega)
     simpa [List.getD,h1,r2] using this
   · rw [dif_neg h1,dif_neg (by omega)]
     exact .tuple _ _ (by simp [r2]) fun i hi => by rw [bh,bh]; exact r3 i (by simpa using hi)
theorem za91 {f : FuncId} {fn : Func} {c : Code} {ic : IC} {rs : List R} {args : List Value} {Post : Value → ah → Prop} (hf : P.funcs[f]? = some fn) (hn : fn.name ≠ "runtime.NumGoroutine") (hb : fn.body = some c)
 {H:List (Nat × DH)} (hc:zbhh P fn.ntmps H c = some ic) (hrs:zbhu P fn.ntmps fn.results.toList = some rs) (hlen:args.length ≤ fn.ntmps)
 (h:evC P fn.ntmps ic (zbct rs Post) (nn args) σ):im P f args σ Post:=by
 refine ⟨by simp [zbh2,hf,hn,hb],fun B w0 m w cargs hr hs hv => ?_⟩
 refine calls_of_wp hf hb ?_
 have hfr:gg m fn.ntmps (nn args) { tmps:=cargs ++ Array.replicate (fn.ntmps - cargs.size) undef,defers:=[] }:=by
  refine ⟨rfl,by simp; omega,fun t ht => ?_⟩
  simp only [nn]
  by_cases hlt:t < args.length
  · have:=hv t hlt
    have e:(cargs ++ Array.replicate (fn.ntmps - cargs.size) undef).getD t undef = cargs.getD t undef:=by
     simp [Array.getD_eq_getD_getElem?,Array.getElem?_append_left (show t < cargs.size by omega)]
    rw [e]; exact this
  · have e:(cargs ++ Array.replicate (fn.ntmps - cargs.size) undef).getD t undef = undef:=by
     have h1:t - cargs.size < fn.ntmps - cargs.size:=by omega
     simp [Array.getD_eq_getD_getElem?,Array.getElem?_append_right (show cargs.size ≤ t by omega),h1]
    have e2:args.getD t undef = undef:=by simp [List.getD,List.getElem?_eq_none (show args.length ≤ t by omega)]
    rw [e,e2]; exact .undef m
 have main:∀ c' ic',mr P fn.ntmps H c' = some ic' → ∀ m1 fr1 σ1 a1 w1,m.le m1 → Rep B w0 σ1 m1 w1 → gg m1 fn.ntmps fr1 a1 → evC P fn.ntmps ic' (zbct rs Post) fr1 σ1 →
  c'.wp P (Exit.noGoto (bodyPost P fn fun e w' => ∃ v c m' σ',e = .returned c ∧ m.le m' ∧ bm m' v c ∧ Rep B w0 σ' m' w' ∧ Post v σ')) a1 w1:=by
  intro c' ic' hc' m1 fr1 σ1 a1 w1 hm1 hr1 hf1 hq1
  refine wp_mono (zbop c' ic' hc' _ _ _ hq1 B w0 m1 w1 _ hr1 hf1) ?_
  rintro e a' w' ⟨m',fr',σ',h1,h2,h3,h4⟩
  have fin:zbd4 rs fr' σ' (fun v => Post v σ') → ∃ v,(results fn a'.tmps).run P w' = .ok v w' ∧ ∃ v_1 c m' σ',Ending.returned v = .returned c ∧ m.le m' ∧ bm m' v_1 c ∧ Rep B w0 σ' m' w' ∧ Post v_1 σ':=fun hk => by
   obtain ⟨v,c,r1,r2,r3⟩:=zbxz hrs h2 h3 hk
   exact ⟨c,r1,v,c,m',σ',rfl,hm1.trans h1,r2,h2,r3⟩
  cases e with
  | normal => exact ⟨h3.defers,fin h4⟩
  | ret => exact ⟨h3.defers,fin h4⟩
  | _ => exact h4.elim
 have drop:∀ {c':Code} {a1:Act} {w1:World} {Q:Exit → Act → World → Prop},c'.wp P (Exit.noGoto Q) a1 w1 → c'.wp P Q a1 w1:=fun h => wp_mono h fun e a' w' hq => by
  cases e with
  | goto l => exact hq.elim
  | _ => exact hq
 have le0:m.le m:=.refl m
 unfold zbhh at hc
 split at hc
 · exact wp_scope_straight (main _ _ hc m _ σ _ w le0 hr hfr h)
 · rename_i x y
   split at hc
   · rename_i p q hp hq
     injection hc with hc; subst hc
     have h1:=zbop x p hp _ _ _ h B w0 m w _ hr hfr
     refine wp_seq (wp_mono h1 ?_)
     rintro e a' w' ⟨m',fr',σ',h2,h3,h4,h5⟩
     cases e with
     | normal => exact wp_scope_straight (main y q hq m' fr' σ' a' w' h2 h3 h4 h5)
     | ret =>
      have h5:zbct rs Post .ret fr' σ':=h5
      obtain ⟨v,c,r1,r2,r3⟩:=zbxz hrs h3 h4 (show zbd4 rs fr' σ' (fun v => Post v σ') from h5)
      exact ⟨h4.defers,c,r1,v,c,m',σ',rfl,h2,r2,h3,r3⟩
     | _ => exact h5.elim
   · cases hc
 · exact drop (main _ _ hc m _ σ _ w le0 hr hfr h)
def ud (P:Program) (H:List (Nat × DH)) (f:FuncId):Option (Nat × IC × List R) :=
 match P.funcs[f]? with
 | some fn => if fn.name == "runtime.NumGoroutine" then none else
  match fn.body.bind (zbhh P fn.ntmps H),zbhu P fn.ntmps fn.results.toList with
  | some ic,some rs => some (fn.ntmps,ic,rs)
  | _,_ => none
 | none => none
theorem za92 {f:FuncId} {N:Nat} {ic:IC} {rs:List R} {H:List (Nat × DH)} (h:ud P H f = some (N,ic,rs)) {args:List Value} {Post:Value → ah → Prop} (hlen:args.length ≤ N)
 (hev:evC P N ic (zbct rs Post) (nn args) σ):im P f args σ Post:=by
 unfold ud at h
 split at h
 · rename_i fn hf
   split at h
   · cases h
   · rename_i hn
     split at h
     · rename_i ic' rs' hic hrs
       simp only [Option.some.injEq,Prod.mk.injEq] at h
       obtain ⟨rfl,rfl,rfl⟩:=h
       cases hb:fn.body with
       | none => rw [hb] at hic; cases hic
       | some c =>
        rw [hb] at hic
        exact za91 hf (by simpa using hn) hb hic hrs hlen hev
     · cases h
 · cases h
end
theorem zb90 {W W':World} (h:Below W.heap.size W W') (may:MemPlace → Prop):W.keptBut W' may:=by
 refine ⟨h.os,h.output,fun i hi => ?_⟩
 rw [h.block i hi]
 have hs:W.heap[i]? = some W.heap[i]:=Array.getElem?_eq_getElem hi
 rw [hs]
 generalize W.heap[i] = o
 cases o <;> simp
theorem zbzw {H:Type} {enc:TypeId × Value → H} {P:Program} (hl:laidOutB P = true) {W W':World} (hb:Below W.heap.size W W'):∀ (ts:List TypeId) (vs:List Value) (ds:List (DataW H)) (ps:List MemPlace),
 (ts.all fun t => P.readableRec t && decide (t < P.types.size)) = true → DataW.TrodAll enc P W 0 (fun _ => true) true ts vs ds ps → (∀ x ∈ ps,x.block < W.heap.size) →
 DataW.TrodAll enc P W' 0 (fun b => decide (b < W.heap.size)) true ts vs ds ps
 | [],[],[],ps,_,h,_ => h
 | [],_ :: _,_,_,_,h,_ => h.elim
 | [],[],_ :: _,_,_,h,_ => h.elim
 | _ :: _,[],_,_,_,h,_ => h.elim
 | _ :: _,_ :: _,[],_,_,h,_ => h.elim
 | t :: ts,v :: vs,d :: ds,ps,hc,h,hp => by
  obtain ⟨p,q,h1,h2,rfl⟩:=h
  simp only [List.all_cons,Bool.and_eq_true,decide_eq_true_eq] at hc
  exact ⟨p,q,Below.trod hl hc.1.1 hc.1.2 h1 hb (fun x hx => hp x (List.mem_append_left _ hx)),zbzw hl hb ts vs ds q (by simpa using hc.2) h2 (fun x hx => hp x (List.mem_append_right _ hx)),rfl⟩
end Go.Proofs.Ytgkkienmocpnbaa.Sh
namespace Go.Proofs.Ytgkkienmocpnbaa.Sh
open Go Go.RowKit
theorem ai {p q:Prop} (a:p) (b:q):p ∧ q:=⟨a,b⟩
inductive TV where
 | undef
 | bool (b:Bool)
 | int (k:IntKind) (n:Int)
 | str (s:ByteArray)
 | nilP
 | ptr (id off:Nat)
 | rptr (cells:List TV) (off:Nat)
 | slz
 | sl (l:List TV)
 | sla (tok:Nat) (l:List TV)
 | slo (t:TypeId) (l:List TV)
 | slm (id off n sz:Nat)
 | slb (tok:Nat) (t:TypeId)
 | nilM
 | nilF
 | func (f:FuncId) (a b:List TV)
 | nilI
 | agg (cells:List TV)
 | tup (cells:List TV)
 deriving Inhabited
def TV.cells:TV → List TV
 | .agg cs => cs
 | v => [v]
def TV.known:TV → Bool
 | .undef => false
 | _ => true
def TV.one:TV → Bool
 | .agg _ | .tup _ | .undef | .rptr _ _ => false
 | _ => true
def ofS:Value → TV
 | .bool b => .bool b
 | .int k n => .int k n
 | .string s => .str s
 | .pointer none => .nilP
 | .map none => .nilM
 | .nilFunc => .nilF
 | .nilIface => .nilI
 | .slice none 0 0 => .slz
 | .func (.func f) ⟨[]⟩ ⟨[]⟩ => .func f [] []
 | _ => .undef
def ofV:Value → TV
 | .agg cs => .agg (cs.toList.map ofS)
 | .tuple cs => .tup (cs.toList.map ofS)
 | v => ofS v
mutual
def TV.under (n:Nat):TV → Bool
 | .ptr id _ => decide (id < n)
 | .slm id _ _ _ => decide (id < n)
 | .sla _ _ => false
 | .slb _ _ => false
 | .func _ a b => eo n a && eo n b
 | .agg cs => eo n cs
 | .tup cs => eo n cs
 | _ => true
def eo (n:Nat):List TV → Bool
 | [] => true
 | v :: r => v.under n && eo n r
end
def TV.pureS:TV → Bool
 | .bool _ | .int _ _ | .str _ | .nilP | .sl _ | .nilM | .nilF | .nilI => true
 | .func _ [] [] => true
 | _ => false
def TV.pure:TV → Bool
 | .agg cs => cs.all TV.pureS
 | v => v.pureS
def TV.canS:TV → TV
 | .sla _ l => .sl l
 | .slb _ _ => .sl []
 | .slz => .sl []
 | v => v
def TV.canA:TV → TV
 | .agg cs => .agg (cs.map TV.canS)
 | v => v.canS
def TV.canT:TV → TV
 | .tup cs => .tup (cs.map TV.canA)
 | v => v.canA
def TV.part:TV → TV
 | .sla _ l => .sl l
 | .slb _ _ => .sl []
 | v => v
def TV.put:TV → TV
 | .sla _ l => .sl l
 | .slb _ _ => .sl []
 | v => v
def TV.rd:TV → TV
 | .slo _ l => .sl l
 | v => v
def TV.list:TV → Option (List TV)
 | .sl l => some l
 | .sla _ l => some l
 | .slz => some []
 | _ => none
abbrev TF:=List (Nat × TV)
abbrev TK:=List (Option (Nat × TypeId))
def lkp:TF → Nat → TV
 | [],_ => .undef
 | (k,v) :: r,t => if t = k then v else lkp r t
def dh (fr:TF) (d:Option Nat) (v:TV):TF:=match d with | some t => (t,v) :: fr | none => fr
def sel (lv:List Nat) (fr:TF):TF:=lv.map fun t => (t,lkp fr t)
def tO (fr:TF):Operand → TV
 | .tmp t => lkp fr t
 | .const v => ofV v
 | .func f => .func f [] []
 | .global _ => .undef
structure Ob where
 t:TypeId
 cs:List TV
structure TH where
 o:List Ob
 lock:Nat
def TH.next (τ:TH):Nat:=τ.o.length
def TH.at (τ:TH) (id:Nat):Option Ob:=τ.o[id]?
def TH.push (τ:TH) (b:Ob):TH:={ τ with o:=τ.o ++ [b] }
def TH.put (τ:TH) (id:Nat) (b:Ob):TH:={ τ with o:=τ.o.set id b }
def TH.cut (τ:TH) (n:Nat):TH:={ τ with o:=τ.o.take n }
def TH.locked (τ:TH) (n:Nat):TH:={ τ with lock:=n }
def yd (op:BinOp) (v w:TV):Option TV :=
 match v,w with
 | .int k x,.int k' y => (a6 op (.int k x) (.int k' y)).map ofS
 | .str x,.str y => (zaqi op x y).map ofS
 | _,_ => none
def g9 (k:NK) (v:TV):Option Bool :=
 match k,v with
 | .p,.nilP => some true
 | .p,.ptr _ _ => some false
 | .p,.rptr _ _ => some false
 | .s,.slz => some true
 | .s,.sl (_ :: _) => some false
 | .s,.sla _ (_ :: _) => some false
 | .s,.slm _ _ _ _ => some false
 | .m,.nilM => some true
 | .f,.nilF => some true
 | .f,.func _ _ _ => some false
 | _,_ => none
def tun (op:UnOp) (v:TV):Option TV :=
 match v with
 | .int k x => (vun op (.int k x)).map ofS
 | .bool b => (vun op (.bool b)).map ofS
 | _ => none
def tHi (n:Nat):Option TV → Option Nat
 | none => some n
 | some (.int _ h) => if 0 ≤ h ∧ h ≤ n then some h.toNat else none
 | some _ => none
def tLo (h:Nat):Option TV → Option (Nat × Nat)
 | none => some (0,h)
 | some (.int _ l) => if 0 ≤ l ∧ l ≤ h then some (l.toNat,h) else none
 | some _ => none
def gv (n:Nat) (lo hi:Option TV):Option (Nat × Nat):=(tHi n hi).bind fun h => tLo h lo
def teq (k:FK) (v w:TV):Option Bool :=
 match k,v,w with
 | .b,.bool a,.bool b => some (a == b)
 | .i,.int j a,.int k b => if j = k then some (a == b) else none
 | .s,.str a,.str b => some (a == b)
 | _,_,_ => none
def zbh7:List FK → List TV → List TV → Option Bool
 | [],[],[] => some true
 | k :: ks,v :: vs,w :: ws => match teq k v w,zbh7 ks vs ws with
  | some a,some b => some (a && b)
  | _,_ => none
 | _,_,_ => none
def de (cs:List TV) (off:Nat):List TV → List TV
 | [] => cs
 | v :: r => de (cs.set off v) (off + 1) r
def zbcw (cs:List TV):List (Nat × Nat × TV) → Option (List TV)
 | [] => some cs
 | (off,size,v) :: r => if v.known = true ∧ v.cells.length = size ∧ off + size ≤ cs.length then zbcw (de cs off (v.cells.map TV.part)) r else none
def za9s:List TV → TV
 | [v] => v
 | l => .agg l
def az (s:ByteArray):List TV:=s.data.toList.map fun b => .int .u8 b.toNat
def mo:List TV → Option (List UInt8)
 | [] => some []
 | .int .u8 n :: r => (mo r).map (UInt8.ofNat n.toNat :: ·)
 | _ :: _ => none
def uh (sz:Nat):Nat → List (Nat × Nat × TV) → Option (List TV)
 | _,[] => some []
 | i,(off,n,v) :: r => if off = i * sz ∧ n = sz ∧ v.canA.cells.length = sz ∧ v.canA.pure = true then (uh sz (i + 1) r).map (v.canA :: ·) else none
def zbbh (τ:TH) (id off:Nat):Option TV:=(τ.at id).bind fun b => (b.cs[off]?).map TV.rd
def gq (τ:TH) (id off n:Nat):Option (List TV):=(τ.at id).bind fun b => if off + n ≤ b.cs.length then some (((b.cs.drop off).take n).map TV.rd) else none
def zbhx (τ:TH) (id off:Nat) (vs:List TV):Option TH :=
 (τ.at id).bind fun b => if τ.lock ≤ id ∧ vs ≠ [] ∧ off + vs.length ≤ b.cs.length ∧ (vs.all TV.one = true) ∧ eo (id + 1) vs = true then some (τ.put id ⟨b.t,de b.cs off vs⟩) else none
def tP (i:I) (fr:TF) (τ:TH):Option TV :=
 match i with
 | .mov x => some (tO fr x)
 | .pick c a b => match tO fr c with | .bool t => some (bif t then tO fr a else tO fr b) | _ => none
 | .load1 x => match tO fr x with
  | .ptr id off => zbbh τ id off
  | .rptr cs off => cs[off]?
  | _ => none
 | .loadN n x => match tO fr x with
  | .ptr id off => if n = 0 then none else (gq τ id off n).map .agg
  | .rptr cs off => if off + n ≤ cs.length then some (.agg ((cs.drop off).take n)) else none
  | _ => none
 | .nilchk x => match tO fr x with
  | .ptr id off => some (.ptr id off)
  | .rptr cs off => some (.rptr cs off)
  | .func f a b => some (.func f a b)
  | _ => none
 | .bin op x y => yd op (tO fr x) (tO fr y)
 | .eqB neg x y => match tO fr x,tO fr y with | .bool p,.bool q => some (.bool (bif neg then p != q else p == q)) | _,_ => none
 | .isNil k neg x => (g9 k (tO fr x)).map fun b => .bool (bif neg then !b else b)
 | .un op x => tun op (tO fr x)
 | .conv k x => match tO fr x with | .int _ n => some (.int k (k.wrap n)) | _ => none
 | .convS x => match tO fr x with | .str s => some (.str s) | _ => none
 | .fieldAddr off x => match tO fr x with
  | .ptr id o => some (.ptr id (o + off))
  | .rptr cs o => some (.rptr cs (o + off))
  | _ => none
 | .field1 off x => match tO fr x with | .agg cs => cs[off]? | _ => none
 | .fieldN off n x => match tO fr x with | .agg cs => if off + n ≤ cs.length then some (.agg ((cs.drop off).take n)) else none | _ => none
 | .indexPtr len sz x i => match tO fr x,tO fr i with
  | .ptr id o,.int _ n => if 0 ≤ n ∧ n < len then some (.ptr id (o + n.toNat * sz)) else none
  | .rptr cs o,.int _ n => if 0 ≤ n ∧ n < len then some (.rptr cs (o + n.toNat * sz)) else none
  | _,_ => none
 | .indexSl sz x i => match tO fr i with
  | .int _ n => match tO fr x with
   | .slm id o len s => if 0 ≤ n ∧ n < len ∧ s = sz then some (.ptr id (o + n.toNat * sz)) else none
   | v => v.list.bind fun l => if 0 ≤ n ∧ n < l.length ∧ (l.getD n.toNat .undef).cells.length = sz then some (.rptr (l.getD n.toNat .undef).cells 0) else none
  | _ => none
 | .indexStr x i => match tO fr x,tO fr i with | .str s,.int _ n => if 0 ≤ n ∧ n < s.size then some (.int .u8 (s.data.getD n.toNat 0).toNat) else none | _,_ => none
 | .sliceStr x lo hi => match tO fr x with | .str s => (gv s.size (lo.map (tO fr)) (hi.map (tO fr))).map fun lh => .str (s.extract lh.1 lh.2) | _ => none
 | .sliceSl sz x lo hi => match tO fr x with
  | .slm id o len s => if s = sz then (gv len (lo.map (tO fr)) (hi.map (tO fr))).map fun lh => .slm id (o + lh.1 * sz) (lh.2 - lh.1) sz else none
  | .sl l => if l.all (fun e => e.cells.length == sz) && !l.isEmpty then (gv l.length (lo.map (tO fr)) (hi.map (tO fr))).map fun lh => .sl ((l.take lh.2).drop lh.1) else none
  | .sla _ l => if l.all (fun e => e.cells.length == sz) && !l.isEmpty then (gv l.length (lo.map (tO fr)) (hi.map (tO fr))).map fun lh => .sl ((l.take lh.2).drop lh.1) else none
  | _ => none
 | .lenS x => match tO fr x with | .str s => some (.int .i64 s.size) | _ => none
 | .lenL x => match tO fr x with
  | .slm _ _ n _ => some (.int .i64 n)
  | v => v.list.map fun l => .int .i64 l.length
 | .min x y => match tO fr x,tO fr y with | .int k a,.int _ b => some (.int k (if b < a then b else a)) | _,_ => none
 | .max x y => match tO fr x,tO fr y with | .int k a,.int _ b => some (.int k (if a < b then b else a)) | _,_ => none
 | .mkFunc (.func f) first captured => some (.func f (first.map fun x => (tO fr x).canS) (captured.map fun x => (tO fr x).canS))
 | .extract x i => match tO fr x with | .tup cs => cs[i]? | _ => none
 | .build zero parts => (zbcw (zero.map ofS) (parts.map fun p => (p.1,p.2.1,tO fr p.2.2))).map .agg
 | .toStr x => match tO fr x with
  | .slm id off n s => if s = 1 then ((gq τ id off n).bind mo).map fun bs => .str ⟨bs.toArray⟩ else none
  | v => (v.list.bind mo).map fun bs => .str ⟨bs.toArray⟩
 | .indexAgg len x i => match tO fr x,tO fr i with | .agg cs,.int _ n => if 0 ≤ n ∧ n < len ∧ len ≤ cs.length then cs[n.toNat]? else none | _,_ => none
 | .indexAggN len sz x i => match tO fr x,tO fr i with | .agg cs,.int _ n => if 0 ≤ n ∧ n < len ∧ len * sz ≤ cs.length then some (.agg ((cs.drop (n.toNat * sz)).take sz)) else none | _,_ => none
 | .eqF neg ks x y => match tO fr x,tO fr y with | .agg p,.agg q => (zbh7 ks p q).map fun b => .bool (bif neg then !b else b) | _,_ => none
 | _ => none
def i8 (t:TypeId) (sz bytes:Nat) (s:TV) (xs:List TV) (tk:TK):Option (TV × TK) :=
 if xs.all (fun e => e.cells.length == sz && e.pure) = true ∧ xs.length * bytes ≤ 140737488355328 ∧ xs.length ≤ maxLen then
  match s with
  | .slz => some (.sla tk.length xs,tk ++ [some (xs.length,t)])
  | .slb tok t0 => match tk[tok]? with
   | some (some (n,t')) => if n = 0 ∧ t0 = t ∧ sz = 1 ∧ xs ≠ [] then some (.sla tok xs,tk.set tok (some (xs.length,t))) else none
   | _ => none
  | .sla tok l => match tk[tok]? with
   | some (some (n,t')) => if n = l.length ∧ (n = 0 ∨ t' = t) ∧ (l.all (fun e => e.cells.length == sz) = true) ∧ (l.length + xs.length) * bytes ≤ 140737488355328 ∧ l.length + xs.length ≤ maxLen then some (.sla tok (l ++ xs),tk.set tok (some (l.length + xs.length,t))) else none
   | _ => none
  | _ => none
 else none
def ir (t:TypeId) (sz bytes:Nat) (s:TV) (xs:List TV) (τ:TH):Option (TV × TH) :=
 if xs ≠ [] ∧ xs.all (fun e => e.cells.length == sz && e.pure) = true then
  match s with
  | .slz => if xs.length * bytes ≤ 140737488355328 ∧ xs.length ≤ maxLen then some (.slm τ.next 0 xs.length sz,τ.push ⟨t,xs.flatMap TV.cells⟩) else none
  | .slm id o n s' => (τ.at id).bind fun b => if o = 0 ∧ s' = sz ∧ b.t = t ∧ b.cs.length = n * sz ∧ n ≠ 0 ∧ τ.lock ≤ id ∧ (n + xs.length) * bytes ≤ 140737488355328 ∧ n + xs.length ≤ maxLen then
   some (.slm τ.next 0 (n + xs.length) sz,(τ.put id ⟨t,[]⟩).push ⟨t,b.cs ++ xs.flatMap TV.cells⟩) else none
  | _ => none
 else none
def zaf9 (t:TypeId) (sz bytes:Nat) (s:TV) (xs:List TV) (τ:TH):Option (TV × TH) :=
 if xs ≠ [] ∧ xs.all (fun e => e.cells.length == sz && e.pure) = true then
  match s with
  | .slm id o n s' => (τ.at id).bind fun b => if o = 0 ∧ s' = sz ∧ b.t = t ∧ n * sz ≤ b.cs.length ∧ b.cs ≠ [] ∧ τ.lock ≤ id ∧ (n + xs.length) * bytes ≤ 140737488355328 ∧ n + xs.length ≤ maxLen then
   some (.slm τ.next 0 (n + xs.length) sz,(τ.put id ⟨t,[]⟩).push ⟨t,b.cs.take (n * sz) ++ xs.flatMap TV.cells⟩) else none
  | _ => none
 else none
def zbbk (sz:Nat):Nat → List TV → List TV
 | 0,_ => []
 | n + 1,l => za9s (l.take sz) :: zbbk sz n (l.drop sz)
def fi (f:TV → Option TV):List TV → Option (List TV)
 | [] => some []
 | v :: r => match f v,fi f r with
  | some x,some y => some (x :: y)
  | _,_ => none
def ej (τ:TH) (n0:Nat):Nat → TV → Option TV
 | 0,v => if v.canS.pureS then some v.canS else none
 | k + 1,v => match v with
  | .slm id off n sz => if sz = 0 ∨ id < n0 then none else (gq τ id off (n * sz)).bind fun l => (fi (ej τ n0 k) l).map fun l => .sl (zbbk sz n l)
  | v => if v.canS.pureS then some v.canS else none
def tfz (τ:TH) (n0:Nat) (v:TV):Option TV :=
 match v with
 | .agg cs => (fi (ej τ n0 2) cs).map .agg
 | v => ej τ n0 2 v
def tOp (i:I) (m:Nat) (fr:TF) (tk:TK) (τ:TH):Option (TV × TK × TH) :=
 match i with
 | .mov x => if m = 1 then (match tO fr x with
  | .slz => some (.sla tk.length [],tk ++ [some (0,0)],τ)
  | _ => none) else if m = 3 then some ((tO fr x).canT,tk,τ) else some (tO fr x,tk,τ)
 | .load1 x => if m = 2 then (match tO fr x with
  | .ptr id off => (τ.at id).bind fun b => match b.cs[off]? with
   | some (.slo t l) => if τ.lock ≤ id then some (.sla tk.length l,tk ++ [some (l.length,t)],τ.put id ⟨b.t,b.cs.set off (.sl l)⟩) else none
   | some .slz => if τ.lock ≤ id then some (.sla tk.length [],tk ++ [some (0,0)],τ.put id ⟨b.t,b.cs.set off (.sl [])⟩) else none
   | _ => none
  | _ => none) else (tP (.load1 x) fr τ).map fun v => (v,tk,τ)
 | .box t n x => if ((tO fr x).cells.all TV.one = true) ∧ eo τ.next ((tO fr x).cells.map TV.put) = true then some (.ptr τ.next 0,tk,τ.push ⟨t,(tO fr x).cells.map TV.put⟩) else none
 | .store n a x => if m = 2 then (match tO fr a,tO fr x with
  | .ptr id off,.sla tok l => match tk[tok]? with
   | some (some (k,t)) => if k = l.length ∧ n = 1 then (zbhx τ id off [.slo t l]).map fun τ' => (.tup [],tk.set tok none,τ') else none
   | _ => none
  | _,_ => none) else match tO fr a with
  | .ptr id off => if (tO fr x).cells.length = n then (zbhx τ id off ((tO fr x).cells.map TV.put)).map fun τ' => (.tup [],tk,τ') else none
  | _ => none
 | .buildSl t sz len zeros parts => if parts.length = len ∧ sz ≠ 0 ∧ zeros.length = len * sz then (uh sz 0 (parts.map fun p => (p.1,p.2.1,tO fr p.2.2))).bind fun l => if m = 1 then some (.slm τ.next 0 l.length sz,tk,τ.push ⟨t,l.flatMap TV.cells⟩) else if m = 2 then (if l ≠ [] ∧ l.length ≤ maxLen then some (.sla tk.length l,tk ++ [some (l.length,t)],τ) else none) else some (.sl l,tk,τ) else none
 | .makeSl t bytes zero l c => match tO fr l,tO fr c with
  | .int _ n,.int _ k => if 0 ≤ n ∧ n ≤ k ∧ k * bytes ≤ 140737488355328 ∧ k ≤ 9223372036854775807 ∧ zero.length ≠ 0 ∧ (zero.all fun z => (ofS z).canS.pureS) = true then
   (if m = 1 then some (.slm τ.next 0 n.toNat zero.length,tk,τ.push ⟨t,((List.replicate n.toNat (zero.map fun z => (ofS z).put)).flatten)⟩)
    else if m = 2 then (if n = 0 ∧ zero.length = 1 then some (.slb tk.length t,tk ++ [some (0,t)],τ) else none)
    else some (.sl (List.replicate n.toNat (za9s (zero.map fun z => (ofS z).canS))),tk,τ)) else none
  | _,_ => none
 | .append t sz bytes s x => if sz = 0 then none else (tO fr x).list.bind fun xs => if m = 1 then (ir t sz bytes (tO fr s) xs τ).map fun p => (p.1,tk,p.2) else if m = 4 then (zaf9 t sz bytes (tO fr s) xs τ).map fun p => (p.1,tk,p.2) else (i8 t sz bytes (tO fr s) xs tk).map fun p => (p.1,p.2,τ)
 | .appendS t s x => match tO fr x with
  | .str b => (i8 t 1 1 (tO fr s) (az b) tk).map fun p => (p.1,p.2,τ)
  | _ => none
 | .toBytes t x => match tO fr x with
  | .str s => if m = 1 then some (.slm τ.next 0 s.size 1,tk,τ.push ⟨t,az s⟩)
   else if m = 2 then some (if s.size = 0 then .slb tk.length t else .sla tk.length (az s),tk ++ [some (s.size,t)],τ)
   else some (.sl (az s),tk,τ)
  | _ => none
 | i => (tP i fr τ).map fun v => (v,tk,τ)
structure ap where
 x:Ins
 m:Nat
inductive TC where
 | skip
 | ops (l:List ap)
 | draw (l:List (ap × List Nat))
 | drawT (l:List (ap × List Nat)) (t:List (DTr Nat × List Nat))
 | seq (a b:TC)
 | cond (c:Operand) (a b:TC)
 | block (id:Nat) (lv:List Nat) (a:TC)
 | loop (lv:List Nat) (a:TC)
 | exit (id:Nat)
 | ret (lv:List Nat)
 | clean (lv:List Nat) (a:TC)
def pq (l:List (ap × List Nat)) (j:Nat):List Ins:=match l[j]? with | some p => [p.1.x] | none => []
def zbgz (l:List (ap × List Nat)) (j:Nat):Ins × List Ins:=match l[j]? with | some p => (p.1.x,p.2.flatMap (pq l)) | none => (⟨none,.mkMap,none⟩,[])
def zbch:List (DTr Nat × List Nat) → DTr Nat
 | [] => .nil
 | p :: r => p.1.join (zbch r)
def TC.erase:TC → IC
 | .skip => .skip
 | .ops l => .ops (l.map ap.x)
 | .draw l => .draw (l.map fun p => (p.1.x,p.2.flatMap (pq l)))
 | .drawT l t => .drawT ((zbch t).map (zbgz l))
 | .seq a b => .seq a.erase b.erase
 | .cond c a b => .cond c a.erase b.erase
 | .block id _ a => .block id a.erase
 | .loop _ a => .loop a.erase
 | .exit id => .exit id
 | .ret _ => .ret
 | .clean _ a => a.erase
inductive TEx where
 | normal
 | exit (id:Nat)
 | ret
 deriving DecidableEq
def TEx.ex:TEx → Exit
 | .normal => .normal
 | .exit id => .exit id
 | .ret => .ret
abbrev CF:=FuncId → List TV → TH → Option (TV × TH)
abbrev EF:=TC → TF → TK → TH → Option (TEx × TF × TK × TH)
def tu (cf:CF) (lk:Bool) (f:FuncId) (args:List TV) (tk:TK) (τ:TH):Option (TV × TK × TH) :=
 if eo τ.next args = true then
  (bif lk then (cf f args (τ.locked τ.next)).map fun p => (p.1,tk,p.2.locked τ.lock) else (cf f args τ).map fun p => (p.1,tk,p.2))
 else none
def TV.flat:TV → Bool
 | .bool _ | .int _ _ | .str _ => true
 | _ => false
def zbdw (cf:CF) (f:FuncId) (args:List TV) (tk:TK) (τ:TH):Option (TV × TK × TH) :=
 (fi (tfz τ 0) args).bind fun as => (cf f as ⟨[],0⟩).bind fun p => if p.1.flat = true then some (p.1,tk,τ) else none
def ca (cf:CF) (dr:Bool) (x:ap) (fr:TF) (tk:TK) (τ:TH):Option (TV × TK × TH) :=
 match x.x.i with
 | .call f args => if x.m = 1 then zbdw cf f (args.map (tO fr)) tk τ else tu cf dr f (args.map fun a => (tO fr a).canT) tk τ
 | .callW f args => tu cf false f (args.map fun a => (tO fr a).canT) tk τ
 | .callv x args => match tO fr x with
  | .func f a b => tu cf dr f (a ++ (args.map fun a => (tO fr a).canT) ++ b) tk τ
  | _ => none
 | .callvW x args => match tO fr x with
  | .func f a b => tu cf false f (a ++ (args.map fun a => (tO fr a).canT) ++ b) tk τ
  | _ => none
 | i => tOp i x.m fr tk τ
def ren (id id':Nat):TV → TV
 | .ptr i off => if i = id then .ptr id' off else .ptr i off
 | v => v
def zbbg (id id':Nat) (fr:TF):TF:=fr.map fun p => (p.1,ren id id' p.2)
def zbjb (a:Operand) (fr:TF) (τ:TH):TF × TH :=
 match tO fr a with
 | .ptr id _ => match τ.at id with
  | some b => if τ.lock ≤ id ∧ b.cs ≠ [] then (zbbg id τ.next fr,(τ.put id ⟨b.t,[]⟩).push b) else (fr,τ)
  | none => (fr,τ)
 | _ => (fr,τ)
def ky (i:I) (m:Nat) (fr:TF) (τ:TH):TF × TH :=
 if m = 9 then match i with
  | .fieldAddr _ a => zbjb a fr τ
  | .store _ a _ => zbjb a fr τ
  | _ => (fr,τ)
 else (fr,τ)
def tGo (cf:CF) (dr:Bool) (x:ap) (fr:TF) (tk:TK) (τ:TH):Option (TF × TK × TH) :=
 (ca cf dr x (ky x.x.i x.m fr τ).1 tk (ky x.x.i x.m fr τ).2).map fun p => (dh (ky x.x.i x.m fr τ).1 x.x.dst p.1,p.2.1,p.2.2)
def ey (cf:CF) (dr:Bool) (x:ap) (fr:TF) (tk:TK) (τ:TH):Option (TF × TK × TH) :=
 match x.x.guard with
 | none => tGo cf dr x fr tk τ
 | some (t,b) => match lkp fr t with
  | .bool c => if c = b then tGo cf dr x fr tk τ else some (dh fr x.x.dst (.tup []),tk,τ)
  | .tup [] => some (dh fr x.x.dst (.tup []),tk,τ)
  | _ => none
def r9 (cf:CF):List ap → TF → TK → TH → Option (TF × TK × TH)
 | [],fr,tk,τ => some (fr,tk,τ)
 | x :: r,fr,tk,τ => match ey cf false x fr tk τ with
  | some (fr',tk',τ') => r9 cf r fr' tk' τ'
  | none => none
def zbbn (y:I) (fr:TF):Option (Option Nat) :=
 match y with
 | .load1 x | .loadN _ x => match tO fr x with
  | .rptr _ _ => some none
  | .ptr id _ => some (some id)
  | _ => none
 | .toStr x => match tO fr x with
  | .sl _ | .sla _ _ => some none
  | _ => none
 | _ => none
def p9 (x:ap) (fr:TF):Option (Option Nat) :=
 match x.x.i with
 | .callW _ _ | .callvW _ _ => some none
 | .store _ a _ => match tO fr a with | .ptr id _ => some (some id) | _ => some none
 | .load1 a => if x.m = 2 then (match tO fr a with | .ptr id _ => some (some id) | _ => some none) else none
 | .append _ _ _ s _ => if x.m = 1 ∨ x.m = 4 then (match tO fr s with | .slm id _ _ _ => some (some id) | _ => none) else none
 | _ => none
def yj (x:ap) (y:Ins) (fr:TF) (τ:TH):Bool :=
 kf x.x.dst y.dsts && match zbbn y.i fr with
  | some none => true
  | some (some id) => (match τ.at id with | some b => !b.cs.isEmpty | none => false) && match p9 x fr with
   | none => true
   | some (some id') => id != id'
   | some none => false
  | none => false
mutual
def TV.same:TV → TV → Bool
 | .int k n,.int j m => decide (k = j) && decide (n = m)
 | .bool a,.bool b => a == b
 | .str a,.str b => decide (a = b)
 | .nilP,.nilP => true
 | .nilF,.nilF => true
 | .ptr i o,.ptr j p => i == j && o == p
 | .func f a b,.func g c d => decide (f = g) && (zbbd a c && zbbd b d)
 | _,_ => false
def zbbd:List TV → List TV → Bool
 | [],[] => true
 | v :: r,w :: s => v.same w && zbbd r s
 | _,_ => false
end
def rdB (b:Option Ob) (off:Nat):Option TV:=b.bind fun b => (b.cs[off]?).map TV.rd
def rdO (v:TV) (τ:TH):Option TV:=match v with | .ptr id off => rdB (τ.at id) off | _ => none
def zbix (i:I) (fr:TF) (τ:TH):Option TV:=match i with | .load1 x => rdO (tO fr x) τ | _ => none
def zbmy (o:Option TV) (w:TV):Bool:=match o with | some v => v.same w | none => false
def zblm (y:Ins) (fr:TF) (τ:TH):Bool:=match y.dst with | some d => zbmy (zbix y.i fr τ) (lkp fr d) | none => false
def zbfy (x:ap) (k:Nat) (fr:TF) (τ:TH) (told:List (Nat × Ins)):List (Nat × Ins) :=
 let old:=told.filter fun y => yj x y.2 fr τ
 if x.m = 0 ∧ am x.x.i = .R ∧ kf x.x.dst x.x.looks = true ∧ (zbbn x.x.i fr).isSome = true then (k,x.x) :: old else old
def eh (x:ap) (k:Nat) (fr:TF) (τ:TH) (fr1:TF) (τ1:TH) (told:List (Nat × Ins)):List (Nat × Ins) :=
 if x.m = 7 then told.filter fun y => zblm y.2 fr1 τ1 else zbfy x k fr τ told
def py (cf:CF):Nat → List (ap × List Nat) → List (Nat × Ins) → TF → TK → TH → Option (TF × TK × TH)
 | _,[],_,fr,tk,τ => some (fr,tk,τ)
 | k,(x,ys) :: r,told,fr,tk,τ => match ey cf true x fr tk τ with
  | some (fr',tk',τ') => if ys.all (fun j => (eh x k (ky x.x.i x.m fr τ).1 (ky x.x.i x.m fr τ).2 fr' τ' told).any fun p => p.1 == j) = true then py cf (k + 1) r (eh x k (ky x.x.i x.m fr τ).1 (ky x.x.i x.m fr τ).2 fr' τ' told) fr' tk' τ' else none
  | none => none
def zbm4 (fr:TF):List Ins → Bool
 | [y] => match y.guard with
  | some (t,b) => match lkp fr t with
   | .bool c => c != b
   | .tup [] => true
   | _ => false
  | none => false
 | _ => false
def r8 (cf:CF) (l:List (ap × List Nat)) (k:Nat) (told:List (Nat × Ins)) (fr:TF) (tk:TK) (τ:TH):Option (List (Nat × Ins) × TF × TK × TH) :=
 match l[k]? with
 | some (x,ys) => match ey cf true x fr tk τ with
  | some (fr',tk',τ') => if ys.all (fun j => (eh x k (ky x.x.i x.m fr τ).1 (ky x.x.i x.m fr τ).2 fr' τ' told).any (fun p => p.1 == j) || zbm4 fr' (pq l j)) = true then some (eh x k (ky x.x.i x.m fr τ).1 (ky x.x.i x.m fr τ).2 fr' τ' told,fr',tk',τ') else none
  | none => none
 | none => none
open Classical in
noncomputable def yg (cf:CF) (lv:List Nat) (l:List (ap × List Nat)):DTr Nat → List (Nat × Ins) → TF → TK → TH → Option (List (Nat × Ins) × TF × TK × TH)
 | .nil,told,fr,tk,τ => some (told,fr,tk,τ)
 | .cons k r,told,fr,tk,τ => (r8 cf l k told fr tk τ).bind fun s => yg cf lv l r s.1 s.2.1 s.2.2.1 s.2.2.2
 | .alt k r j q,told,fr,tk,τ => ((r8 cf l k told fr tk τ).bind fun s => yg cf lv l r s.1 s.2.1 s.2.2.1 s.2.2.2).bind fun R =>
  ((r8 cf l j told fr tk τ).bind fun s => yg cf lv l q s.1 s.2.1 s.2.2.1 s.2.2.2).bind fun R' => if sel lv R.2.1 = sel lv R'.2.1 ∧ R.2.2.1 = R'.2.2.1 ∧ R.2.2.2 = R'.2.2.2 then some (R.1.filter (fun p => R'.1.any fun q => q.1 == p.1),R.2) else none
noncomputable def t9 (cf:CF) (l:List (ap × List Nat)):List (DTr Nat × List Nat) → List (Nat × Ins) → TF → TK → TH → Option (TF × TK × TH)
 | [],_,fr,tk,τ => some (fr,tk,τ)
 | (t,lv) :: r,told,fr,tk,τ => (yg cf lv l t told fr tk τ).bind fun R => t9 cf l r R.1 (sel lv R.2.1) R.2.2.1 R.2.2.2
mutual
def TV.lt (n m:Nat):TV → Bool
 | .ptr id _ => decide (id < n)
 | .slm id _ _ _ => decide (id < n)
 | .sla k _ => decide (k < m)
 | .slb k _ => decide (k < m)
 | .func _ a b => ltL n m a && ltL n m b
 | .agg cs => ltL n m cs
 | .tup cs => ltL n m cs
 | _ => true
def ltL (n m:Nat):List TV → Bool
 | [] => true
 | v :: r => v.lt n m && ltL n m r
end
def lm (lv:List Nat) (tk:TK) (τ:TH) (fr':TF) (tk':TK) (τ':TH):TF × TK × TH :=
 if ltL τ.next tk.length (lv.map fun t => lkp fr' t) = true then (sel lv fr',tk'.take tk.length,τ'.cut τ.next) else (sel lv fr',tk',τ')
structure TFn where
 n:Nat
 c:TC
 rs:List R
 fz:Bool
inductive TG where
 | code (f:TFn)
 | prim (g:List TV → TH → Option (TV × TH))
def uo (fr:TF) (τ:TH):R → Option TV
 | .tmp t => some (lkp fr t)
 | .cell1 t => match lkp fr t with
  | .ptr id off => zbbh τ id off
  | _ => none
 | .cellN t n => match lkp fr t with
  | .ptr id off => if n = 0 then none else (gq τ id off n).map .agg
  | _ => none
def o6 (fr:TF) (τ:TH):List R → Option (List TV)
 | [] => some []
 | r :: l => match uo fr τ r,o6 fr τ l with
  | some x,some y => some (x :: y)
  | _,_ => none
def ek (rs:List R) (fr:TF) (τ:TH):Option TV :=
 match rs with
 | [r] => uo fr τ r
 | rs => (o6 fr τ rs).map .tup
def zbbf:Nat → List TV → TF
 | _,[] => []
 | k,v :: r => (k,v) :: zbbf (k + 1) r
noncomputable def bb (p:CF × EF):EF:=fun c fr tk τ =>
 match c with
 | .skip => some (.normal,fr,tk,τ)
 | .ops l => (r9 p.1 l fr tk τ).map fun q => (.normal,q)
 | .draw l => (py p.1 0 l [] fr tk τ).map fun q => (.normal,q)
 | .drawT l t => (t9 p.1 l t [] fr tk τ).map fun q => (.normal,q)
 | .seq a b => match p.2 a fr tk τ with
  | some (.normal,fr',tk',τ') => p.2 b fr' tk' τ'
  | r => r
 | .cond c a b => match tO fr c with
  | .bool true => p.2 a fr tk τ
  | .bool false => p.2 b fr tk τ
  | _ => none
 | .block id lv a => match p.2 a fr tk τ with
  | some (e,fr',tk',τ') => if e = .normal ∨ e = .exit id then some (.normal,lm lv tk τ fr' tk' τ') else some (e,fr',tk',τ')
  | none => none
 | .loop lv a => match p.2 a (sel lv fr) tk τ with
  | some (.normal,fr',tk',τ') => p.2 (.loop lv a) (lm lv tk τ fr' tk' τ').1 (lm lv tk τ fr' tk' τ').2.1 (lm lv tk τ fr' tk' τ').2.2
  | r => r
 | .exit id => some (.exit id,fr,tk,τ)
 | .ret lv => some (.ret,sel lv fr,tk,τ)
 | .clean lv a => p.2 a (sel lv fr) tk τ
def ku (Γ:FuncId → Option TG) (p:CF × EF):CF:=fun f args τ =>
 match Γ f with
 | some (.code fn) => if args.length ≤ fn.n then (match p.2 fn.c (zbbf 0 args) [] τ with
  | some (e,fr,tk,τ') => if e = .normal ∨ e = .ret then (ek fn.rs fr τ').bind fun v => if fn.fz = true then ((tfz τ' τ.next v).bind fun u => some (u,τ'.cut τ.next)) else if v.canT.under τ.next then some (v.canT,τ'.cut τ.next) else if v.canT.under τ'.next then some (v.canT,τ') else none else none
  | none => none) else none
 | some (.prim g) => g args τ
 | none => none
noncomputable def a7 (Γ:FuncId → Option TG):Nat → CF × EF
 | 0 => (fun _ _ _ => none,fun _ _ _ _ => none)
 | k + 1 => (ku Γ (a7 Γ k),bb (a7 Γ k))
open Go Go.RowKit
inductive PR (σ:ah):TV → Value → Prop where
 | bool (b:Bool):PR σ (.bool b) (.bool b)
 | int (k:IntKind) (n:Int):PR σ (.int k n) (.int k n)
 | str (s:ByteArray):PR σ (.str s) (.string s)
 | nilP:PR σ .nilP (.pointer none)
 | nilM:PR σ .nilM (.map none)
 | nilF:PR σ .nilF .nilFunc
 | nilI:PR σ .nilI .nilIface
 | func (f:FuncId):PR σ (.func f [] []) (.func (.func f) #[] #[])
 | slN:PR σ (.sl []) (.slice none 0 0)
 | slE (a:Addr) (s:Nat):PR σ (.sl []) (.slice (some a) 0 s)
 | sl (l:List TV) (g o s:Nat) (t:TypeId) (cs:List Value) (md:Md) (hne:l ≠ []) (hs:s ≠ 0) (hat:σ.at g = .cells t cs md) (hmd:md ≠ .rw) (hlen:o + l.length * s ≤ cs.length)
  (hc:∀ i,i < l.length → (l.getD i .undef).cells.length = s)
  (hr:∀ i,i < l.length → ∀ j,j < s → PR σ ((l.getD i .undef).cells.getD j .undef) (cs.getD (o + i * s + j) undef)) :
  PR σ (.sl l) (.slice (some ⟨g,o,none⟩) l.length s)
inductive Own where
 | none
 | obj (id:Nat)
 | cell (id off:Nat)
 | tok (i:Nat)
structure Env where
 b:Nat → Nat
 n:Nat
 who:Nat → Own
def zbqr (σ:ah) (own:Nat → Prop) (t:TypeId) (l:List TV) (w:Value):Prop :=
 (l = [] ∧ w = .slice none 0 0) ∨ (l ≠ [] ∧ ∃ g s cs,w = .slice (some ⟨g,0,none⟩) l.length s ∧ own g ∧ σ.at g = .cells t cs .app ∧ cs.length = l.length * s)
inductive TR (σ:ah) (e:Env) (tk:TK):TV → Value → Prop where
 | undef (w:Value):TR σ e tk .undef w
 | pr {v:TV} {w:Value} (h:PR σ v w):TR σ e tk v w
 | slz:TR σ e tk .slz (.slice none 0 0)
 | ptr (id off:Nat) (h:id < e.n):TR σ e tk (.ptr id off) (.pointer (some ⟨e.b id,off,none⟩))
 | slm (id off n sz:Nat) (h:id < e.n):TR σ e tk (.slm id off n sz) (.slice (some ⟨e.b id,off,none⟩) n sz)
 | rptr (cs:List TV) (off g o:Nat) (t:TypeId) (ws:List Value) (md:Md) (hat:σ.at g = .cells t ws md) (hmd:md ≠ .rw) (hlen:o + cs.length ≤ ws.length)
  (hr:∀ j,j < cs.length → PR σ (cs.getD j .undef) (ws.getD (o + j) Go.undef)):TR σ e tk (.rptr cs off) (.pointer (some ⟨g,o + off,none⟩))
 | sla (tok:Nat) (l:List TV) (w:Value) (h:PR σ (.sl l) w) (hlt:tok < tk.length)
  (hl:∀ n t,tk[tok]? = some (some (n,t)) → l.length ≤ n ∧ (l.length = n → zbqr σ (fun g => e.who g = .tok tok) t l w)):TR σ e tk (.sla tok l) w
 | slb (tok:Nat) (t:TypeId) (g:Nat) (hlt:tok < tk.length) (hl:∀ n t',tk[tok]? = some (some (n,t')) → n = 0 → e.who g = .tok tok ∧ σ.at g = .cells t [] .app):TR σ e tk (.slb tok t) (.slice (some ⟨g,0,none⟩) 0 1)
 | func (f:FuncId) (a b:List TV) (c d:Array Value) (ha:a.length = c.size) (hb:b.length = d.size) (h1:∀ i,i < a.length → TR σ e tk (a.getD i .undef) (c.getD i Go.undef))
  (h2:∀ i,i < b.length → TR σ e tk (b.getD i .undef) (d.getD i Go.undef)):TR σ e tk (.func f a b) (.func (.func f) c d)
 | agg (a:List TV) (c:Array Value) (ha:a.length = c.size) (h:∀ i,i < a.length → TR σ e tk (a.getD i .undef) (c.getD i Go.undef)):TR σ e tk (.agg a) (.agg c)
 | tup (a:List TV) (c:Array Value) (ha:a.length = c.size) (h:∀ i,i < a.length → TR σ e tk (a.getD i .undef) (c.getD i Go.undef)):TR σ e tk (.tup a) (.tuple c)
def ye (σ σ':ah):Prop:=∀ g t cs md,σ.at g = .cells t cs md → md ≠ .rw → ∃ md',md' ≠ .rw ∧ σ'.at g = .cells t cs md'
theorem ye.refl (σ:ah):ye σ σ:=fun g t cs md h hm => ⟨md,hm,h⟩
theorem ye.trans {a b c:ah} (h:ye a b) (k:ye b c):ye a c:=fun g t cs md h1 hm => by
 obtain ⟨m1,h2,h3⟩:=h g t cs md h1 hm
 exact k g t cs m1 h3 h2
theorem ye.push (σ:ah) (b:Blk):ye σ (σ.push b):=fun g t cs md h hm => ⟨md,hm,by
 rw [σ.at_push_ne b (Nat.ne_of_lt (ah.lt_of_at (by rw [h]; rfl)))]; exact h⟩
theorem PR.mono {σ σ':ah} (hk:ye σ σ') {v:TV} {w:Value} (h:PR σ v w):PR σ' v w:=by
 induction h with
 | sl l g o s t cs md hne hs hat hmd hlen hc hr ih =>
  obtain ⟨m2,h2,h3⟩:=hk g t cs md hat hmd
  exact .sl l g o s t cs m2 hne hs h3 h2 hlen hc ih
 | bool b => exact .bool b
 | int k n => exact .int k n
 | str s => exact .str s
 | nilP => exact .nilP
 | nilM => exact .nilM
 | nilF => exact .nilF
 | nilI => exact .nilI
 | func f => exact .func f
 | slN => exact .slN
 | slE a s => exact .slE a s
structure Stp (σ:ah) (e:Env) (tk:TK) (σ':ah) (e':Env) (tk':TK):Prop where
 keep:ye σ σ'
 n:e.n ≤ e'.n
 b:∀ id,id < e.n → e'.b id = e.b id
 tkl:∀ i,i < tk.length → i < tk'.length
 tok:∀ i n' t',i < tk.length → tk'[i]? = some (some (n',t')) → ∃ n t,tk[i]? = some (some (n,t)) ∧ ((n = n' ∧ (t = t' ∨ n = 0) ∧ ∀ g,e.who g = .tok i → e'.who g = .tok i ∧ σ'.at g = σ.at g) ∨ n < n')
theorem TR.step {σ σ':ah} {e e':Env} {tk tk':TK} (hs:Stp σ e tk σ' e' tk') {v:TV} {w:Value} (h:TR σ e tk v w):TR σ' e' tk' v w:=by
 induction h with
 | undef w => exact .undef w
 | pr h => exact .pr (h.mono hs.keep)
 | slz => exact .slz
 | ptr id off h => rw [← hs.b id h]; exact .ptr id off (Nat.lt_of_lt_of_le h hs.n)
 | slm id off n sz h => rw [← hs.b id h]; exact .slm id off n sz (Nat.lt_of_lt_of_le h hs.n)
 | rptr cs off g o t ws md hat hmd hlen hr =>
  obtain ⟨m2,h2,h3⟩:=hs.keep g t ws md hat hmd
  exact .rptr cs off g o t ws m2 h3 h2 hlen fun j hj => (hr j hj).mono hs.keep
 | sla tok l w h hlt hl =>
  refine .sla tok l w (h.mono hs.keep) (hs.tkl tok hlt) fun n' t' hn => ?_
  obtain ⟨n,t,e1,e2⟩:=hs.tok tok n' t' hlt hn
  obtain ⟨h1,h2⟩:=hl n t e1
  rcases e2 with ⟨rfl,ht,e3⟩ | e3
  · refine ⟨h1,fun e => ?_⟩
    rcases h2 e with h2 | ⟨hne,g,s,cs,q1,q2,q3,q4⟩
    · exact .inl h2
    · obtain ⟨r1,r2⟩:=e3 g q2
      have ht:t = t':=ht.resolve_right fun h0 => hne (List.eq_nil_of_length_eq_zero (by omega))
      exact .inr ⟨hne,g,s,cs,q1,r1,by rw [r2,← ht]; exact q3,q4⟩
  · exact ⟨by omega,fun e => by omega⟩
 | slb tok t g hlt hl =>
  refine .slb tok t g (hs.tkl tok hlt) fun n' t' hn h0 => ?_
  obtain ⟨n,t1,e1,e2⟩:=hs.tok tok n' t' hlt hn
  subst h0
  rcases e2 with ⟨rfl,ht,e3⟩ | e3
  · obtain ⟨h1,h2⟩:=hl _ _ e1 rfl
    obtain ⟨r1,r2⟩:=e3 g h1
    exact ⟨r1,by rw [r2]; exact h2⟩
  · omega
 | func f a b c d ha hb h1 h2 ih1 ih2 => exact .func f a b c d ha hb ih1 ih2
 | agg a c ha h ih => exact .agg a c ha ih
 | tup a c ha h ih => exact .tup a c ha ih
theorem Stp.refl (σ:ah) (e:Env) (tk:TK):Stp σ e tk σ e tk :=
 ⟨.refl _,Nat.le_refl _,fun _ _ => rfl,fun _ h => h,fun i n t hi h => ⟨n,t,h,.inl ⟨rfl,.inl rfl,fun g hg => ⟨hg,rfl⟩⟩⟩⟩
section inv
variable {σ:ah} {e:Env} {tk:TK} {w:Value}
theorem np {b:Bool} (h:TR σ e tk (.bool b) w):w = .bool b:=by cases h; rename_i h; cases h; rfl
theorem jv {k:IntKind} {n:Int} (h:TR σ e tk (.int k n) w):w = .int k n:=by cases h; rename_i h; cases h; rfl
theorem up {s:ByteArray} (h:TR σ e tk (.str s) w):w = .string s:=by cases h; rename_i h; cases h; rfl
theorem zblo (h:TR σ e tk .nilP w):w = .pointer none:=by cases h; rename_i h; cases h; rfl
theorem zbgc (h:TR σ e tk .nilM w):w = .map none:=by cases h; rename_i h; cases h; rfl
theorem zbpt (h:TR σ e tk .nilF w):w = .nilFunc:=by cases h; rename_i h; cases h; rfl
theorem zbfz (h:TR σ e tk .slz w):w = .slice none 0 0:=by cases h <;> first | rfl | (rename_i h; cases h)
theorem n6 {id off:Nat} (h:TR σ e tk (.ptr id off) w):id < e.n ∧ w = .pointer (some ⟨e.b id,off,none⟩):=by
 cases h with
 | ptr _ _ h => exact ⟨h,rfl⟩
 | pr h => cases h
theorem zbcz {id off n sz:Nat} (h:TR σ e tk (.slm id off n sz) w):id < e.n ∧ w = .slice (some ⟨e.b id,off,none⟩) n sz:=by
 cases h with
 | slm _ _ _ _ h => exact ⟨h,rfl⟩
 | pr h => cases h
theorem zbc1 {cs:List TV} {off:Nat} (h:TR σ e tk (.rptr cs off) w):∃ g o t ws md,σ.at g = .cells t ws md ∧ md ≠ .rw ∧ o + cs.length ≤ ws.length ∧ (∀ j,j < cs.length → PR σ (cs.getD j .undef) (ws.getD (o + j) Go.undef)) ∧
 w = .pointer (some ⟨g,o + off,none⟩):=by
 cases h with
 | rptr _ _ g o t ws md hat hmd hlen hr => exact ⟨g,o,t,ws,md,hat,hmd,hlen,hr,rfl⟩
 | pr h => cases h
theorem zbmw {tok:Nat} {t:TypeId} (h:TR σ e tk (.slb tok t) w):∃ g,w = .slice (some ⟨g,0,none⟩) 0 1 ∧ tok < tk.length ∧ ∀ n t',tk[tok]? = some (some (n,t')) → n = 0 → e.who g = .tok tok ∧ σ.at g = .cells t [] .app:=by
 cases h with
 | slb _ _ g hlt hl => exact ⟨g,rfl,hlt,hl⟩
 | pr h => cases h
theorem zbcy {a:List TV} (h:TR σ e tk (.agg a) w):∃ c,w = .agg c ∧ a.length = c.size ∧ ∀ i,i < a.length → TR σ e tk (a.getD i .undef) (c.getD i Go.undef):=by
 cases h with
 | agg _ c ha h => exact ⟨c,rfl,ha,h⟩
 | pr h => cases h
theorem zaa0 {a:List TV} (h:TR σ e tk (.tup a) w):∃ c,w = .tuple c ∧ a.length = c.size ∧ ∀ i,i < a.length → TR σ e tk (a.getD i .undef) (c.getD i Go.undef):=by
 cases h with
 | tup _ c ha h => exact ⟨c,rfl,ha,h⟩
 | pr h => cases h
theorem zbiw {f:FuncId} {a b:List TV} (h:TR σ e tk (.func f a b) w):∃ c d,w = .func (.func f) c d ∧ a.length = c.size ∧ b.length = d.size ∧ (∀ i,i < a.length → TR σ e tk (a.getD i .undef) (c.getD i Go.undef)) ∧
 ∀ i,i < b.length → TR σ e tk (b.getD i .undef) (d.getD i Go.undef):=by
 cases h with
 | func _ _ _ c d ha hb h1 h2 => exact ⟨c,d,rfl,ha,hb,h1,h2⟩
 | pr h => cases h; exact ⟨_,_,rfl,rfl,rfl,fun i hi => by simp at hi,fun i hi => by simp at hi⟩
theorem sc {v:TV} {l:List TV} (hv:v.list = some l) (h:TR σ e tk v w):PR σ (.sl l) w:=by
 cases v with
 | sl l' => injection hv with hv; subst hv; cases h; assumption
 | sla tok l' => injection hv with hv; subst hv; cases h with | sla _ _ _ h => exact h | pr h => cases h
 | slz => injection hv with hv; subst hv; rw [zbfz h]; exact .slN
 | _ => cases hv
theorem zbta {l:List TV} (h:PR σ (.sl l) w):∃ a s,w = .slice a l.length s:=by cases h <;> exact ⟨_,_,rfl⟩
theorem qn {l:List TV} (hne:l ≠ []) (h:PR σ (.sl l) w):∃ g o s t cs md,s ≠ 0 ∧ σ.at g = .cells t cs md ∧ md ≠ .rw ∧ o + l.length * s ≤ cs.length ∧ (∀ i,i < l.length → (l.getD i .undef).cells.length = s) ∧
 (∀ i,i < l.length → ∀ j,j < s → PR σ ((l.getD i .undef).cells.getD j .undef) (cs.getD (o + i * s + j) undef)) ∧ w = .slice (some ⟨g,o,none⟩) l.length s:=by
 cases h with
 | slN => exact absurd rfl hne
 | slE => exact absurd rfl hne
 | sl _ g o s t cs md _ hs hat hmd hlen hc hr => exact ⟨g,o,s,t,cs,md,hs,hat,hmd,hlen,hc,hr,rfl⟩
end inv
theorem zbin {σ:ah} {e:Env} {tk:TK} (v:Value):TR σ e tk (ofS v) v:=by
 unfold ofS
 split
 · exact .pr (.bool _)
 · exact .pr (.int _ _)
 · exact .pr (.str _)
 · exact .pr .nilP
 · exact .pr .nilM
 · exact .pr .nilF
 · exact .pr .nilI
 · exact .slz
 · exact .pr (.func _)
 · exact .undef _
theorem zbc8 {σ:ah} {e:Env} {tk:TK} (cs:Array Value):∀ i,i < (cs.toList.map ofS).length → TR σ e tk ((cs.toList.map ofS).getD i .undef) (cs.getD i undef):=fun i hi => by
 have hi':i < cs.size:=by simpa using hi
 have e1:(cs.toList.map ofS).getD i .undef = ofS cs[i]:=by simp [List.getD_eq_getElem?_getD,hi']
 have e2:cs.getD i undef = cs[i]:=by simp [Array.getD,hi']
 rw [e1,e2]
 exact zbin _
theorem zbjl {σ:ah} {e:Env} {tk:TK} (v:Value):TR σ e tk (ofV v) v:=by
 unfold ofV
 split
 · rename_i cs
   exact .agg _ _ (by simp) (zbc8 cs)
 · rename_i cs
   exact .tup _ _ (by simp) (zbc8 cs)
 · exact zbin _
def CR (σ:ah) (e:Env) (id j:Nat) (v:TV) (w:Value):Prop :=
 match v with
 | .slo t l => PR σ (.sl l) w ∧ zbqr σ (fun g => e.who g = .cell id j) t l w
 | v => TR σ e [] v w ∧ v.under (id + 1) = true ∧ v.one = true
def zbk9 (σ:ah) (e:Env) (id:Nat) (b:Ob):Prop :=
 e.who (e.b id) = .obj id ∧ ∃ cs,σ.at (e.b id) = .cells b.t cs .rw ∧ cs.length = b.cs.length ∧ ∀ j,j < cs.length → CR σ e id j (b.cs.getD j .undef) (cs.getD j undef) ∧ scalar (cs.getD j undef) = true
def bx (σ:ah) (e:Env) (id:Nat) (b:Ob):Prop:=b.cs = [] ∨ zbk9 σ e id b
theorem bx.live {σ:ah} {e:Env} {id:Nat} {b:Ob} (h:bx σ e id b) (hne:b.cs ≠ []):zbk9 σ e id b:=h.resolve_left hne
structure Bs where
 σ:ah
 e:Env
 lo:Nat
def Bs.free (B:Bs) (g:Nat):Prop:=B.σ.next ≤ g ∨ ∃ id,B.lo ≤ id ∧ (B.e.who g = .obj id ∨ ∃ j,B.e.who g = .cell id j)
def Own.mine (lo:Nat):Own → Prop
 | .none => False
 | .obj id => lo ≤ id
 | .cell id _ => lo ≤ id
 | .tok _ => True
structure St (B:Bs) (e:Env) (fr:TF) (tk:TK) (τ:TH) (fr':Fr) (σ:ah):Prop where
 nx:B.σ.next ≤ σ.next
 keep:∀ g,g < B.σ.next → ¬ B.free g → σ.blk g = B.σ.blk g
 fro:ye B.σ σ
 n0:B.e.n ≤ e.n
 b0:∀ id,id < B.e.n → e.b id = B.e.b id
 n:e.n = τ.next
 lo:τ.lock = B.lo
 mine:∀ g,(e.who g).mine B.lo → B.free g
 wlt:∀ g,e.who g ≠ .none → g < σ.next
 wid:∀ g id,(e.who g = .obj id ∨ ∃ j,e.who g = .cell id j) → id < e.n
 old:∀ g,g < B.σ.next → ¬ B.free g → e.who g = B.e.who g
 ob:∀ id,id < τ.next → ∃ b,τ.at id = some b ∧ bx σ e id b
 fm:∀ t,TR σ e tk (lkp fr t) (fr' t)
theorem St.op {B:Bs} {e:Env} {fr:TF} {tk:TK} {τ:TH} {fr':Fr} {σ:ah} (h:St B e fr tk τ fr' σ) (x:Operand):TR σ e tk (tO fr x) (evO fr' x):=by
 cases x with
 | tmp t => exact h.fm t
 | const v => exact zbjl v
 | func f => exact .pr (.func f)
 | global g => exact .undef _
theorem zbcf (fr:TF) (d:Option Nat) (v:TV) (t:Nat):lkp (dh fr d v) t = if d = some t then v else lkp fr t:=by
 cases d with
 | none => simp [dh]
 | some d =>
  simp only [dh,lkp,Option.some.injEq]
  by_cases h:t = d
  · simp [h]
  · simp [h,Ne.symm h]
theorem St.frame {B:Bs} {e:Env} {fr fr2:TF} {tk:TK} {τ:TH} {fr' fr2':Fr} {σ:ah} (h:St B e fr tk τ fr' σ) (hf:∀ t,TR σ e tk (lkp fr2 t) (fr2' t)):St B e fr2 tk τ fr2' σ :=
 ⟨h.nx,h.keep,h.fro,h.n0,h.b0,h.n,h.lo,h.mine,h.wlt,h.wid,h.old,h.ob,hf⟩
theorem St.put {B:Bs} {e:Env} {fr:TF} {tk:TK} {τ:TH} {fr':Fr} {σ:ah} (h:St B e fr tk τ fr' σ) (d:Option Nat) {v:TV} {w:Value} (hv:TR σ e tk v w):St B e (dh fr d v) tk τ (fr'.put d w) σ :=
 h.frame fun t => by
  rw [zbcf]
  cases d with
  | none => simpa [Fr.put] using h.fm t
  | some d =>
   simp only [Fr.put,Option.some.injEq]
   by_cases e:t = d
   · rw [if_pos e.symm,if_pos e]; exact hv
   · rw [if_neg (Ne.symm e),if_neg e]; exact h.fm t
theorem za8t (lv:List Nat) (fr:TF) (t:Nat):lkp (sel lv fr) t = if t ∈ lv then lkp fr t else .undef:=by
 unfold sel
 induction lv with
 | nil => rfl
 | cons a r ih =>
  simp only [List.map_cons,lkp,ih,List.mem_cons]
  by_cases h:t = a
  · simp [h]
  · simp [h]
theorem St.sel {B:Bs} {e:Env} {fr:TF} {tk:TK} {τ:TH} {fr':Fr} {σ:ah} (h:St B e fr tk τ fr' σ) (lv:List Nat):St B e (sel lv fr) tk τ fr' σ :=
 h.frame fun t => by
  rw [za8t]
  split
  · exact h.fm t
  · exact .undef _
section
variable {σ:ah} {e:Env} {tk:TK}
theorem zbbs {op:BinOp} {k k':IntKind} {x y:Int} {r:Value} (h:a6 op (.int k x) (.int k' y) = some r):PR σ (ofS r) r:=by
 have key:(∃ k n,r = .int k n) ∨ ∃ b,r = .bool b:=by
  unfold a6 at h
  simp only at h
  split at h
  · unfold zbfs at h; split at h <;> (try split at h) <;> first | (cases h; exact .inl ⟨_,_,rfl⟩) | cases h
  · unfold zbfs at h; split at h <;> (try split at h) <;> first | (cases h; exact .inl ⟨_,_,rfl⟩) | cases h
  · split at h
    · unfold df at h
      split at h <;> (try split at h) <;> first | (cases h; exact .inl ⟨_,_,rfl⟩) | (cases h; exact .inr ⟨_,rfl⟩) | cases h
    · cases h
 rcases key with ⟨k,n,rfl⟩ | ⟨b,rfl⟩
 · exact .int _ _
 · exact .bool _
theorem zbb5 {op:BinOp} {x y:ByteArray} {r:Value} (h:zaqi op x y = some r):PR σ (ofS r) r:=by
 unfold zaqi at h
 split at h <;> (try split at h) <;> first | (cases h; exact .str _) | (cases h; exact .bool _) | cases h
theorem zbbr (op:BinOp) (x y:ByteArray):a6 op (.string x) (.string y) = zaqi op x y:=by unfold a6; rfl
theorem zbge {op:BinOp} {v1 v2 v:TV} {w1 w2:Value} (h1:TR σ e tk v1 w1) (h2:TR σ e tk v2 w2) (h:yd op v1 v2 = some v):∃ r,a6 op w1 w2 = some r ∧ PR σ v r:=by
 unfold yd at h
 split at h
 · obtain ⟨r,hr,rfl⟩:=Option.map_eq_some_iff.1 h
   rw [jv h1,jv h2]
   exact ⟨r,hr,zbbs hr⟩
 · obtain ⟨r,hr,rfl⟩:=Option.map_eq_some_iff.1 h
   rw [up h1,up h2]
   exact ⟨r,by rw [zbbr]; exact hr,zbb5 hr⟩
 · cases h
theorem zbjk {op:UnOp} {v v1:TV} {w1:Value} (h1:TR σ e tk v1 w1) (h:tun op v1 = some v):∃ r,vun op w1 = some r ∧ PR σ v r:=by
 unfold tun at h
 split at h
 · obtain ⟨r,hr,rfl⟩:=Option.map_eq_some_iff.1 h
   rw [jv h1]
   refine ⟨r,hr,?_⟩
   unfold vun at hr
   split at hr <;> first | (cases hr; exact .int _ _) | (cases hr; exact .bool _) | cases hr
 · obtain ⟨r,hr,rfl⟩:=Option.map_eq_some_iff.1 h
   rw [np h1]
   refine ⟨r,hr,?_⟩
   unfold vun at hr
   split at hr <;> first | (cases hr; exact .int _ _) | (cases hr; exact .bool _) | cases hr
 · cases h
theorem zbgd {k:NK} {v:TV} {b:Bool} {w:Value} (h1:TR σ e tk v w) (h:g9 k v = some b):r7 k w = some b:=by
 unfold g9 at h
 split at h
 · injection h with h; subst h; rw [zblo h1]; rfl
 · injection h with h; subst h; rw [(n6 h1).2]; rfl
 · injection h with h; subst h; obtain ⟨_,_,_,_,_,_,_,_,_,rfl⟩:=zbc1 h1; rfl
 · injection h with h; subst h; rw [zbfz h1]; rfl
 · injection h with h; subst h
   obtain ⟨_,_,_,_,_,_,_,_,_,_,_,_,rfl⟩:=qn (by simp) (sc (v:=.sl (_ :: _)) rfl h1); rfl
 · injection h with h; subst h
   obtain ⟨_,_,_,_,_,_,_,_,_,_,_,_,rfl⟩:=qn (by simp) (sc (v:=.sla _ (_ :: _)) rfl h1); rfl
 · injection h with h; subst h; rw [(zbcz h1).2]; rfl
 · injection h with h; subst h; rw [zbgc h1]; rfl
 · injection h with h; subst h; rw [zbpt h1]; rfl
 · injection h with h; subst h; obtain ⟨_,_,rfl,_⟩:=zbiw h1; rfl
 · cases h
def vHi (n:Nat):Option Value → Option Nat
 | none => some n
 | some (.int _ h) => if 0 ≤ h ∧ h ≤ n then some h.toNat else none
 | some _ => none
def vLo (h:Nat):Option Value → Option (Nat × Nat)
 | none => some (0,h)
 | some (.int _ l) => if 0 ≤ l ∧ l ≤ h then some (l.toNat,h) else none
 | some _ => none
theorem zbab (n:Nat) (lo hi:Option Value):q9 n lo hi = (vHi n hi).bind fun h => vLo h lo:=by
 have lo1:∀ h,(match lo with | none => some (0,h) | some (.int _ l) => if 0 ≤ l ∧ l ≤ h then some (l.toNat,h) else none | some _ => none) = vLo h lo:=fun h => by
  rcases lo with _ | u
  · rfl
  · cases u <;> rfl
 rcases hi with _ | v
 · exact lo1 n
 · cases v with
   | int k h =>
    simp only [q9,vHi]
    by_cases c:0 ≤ h ∧ h ≤ n
    · simp only [if_pos c,Option.bind_some]; exact lo1 _
    · simp only [if_neg c,Option.bind_none]
   | _ => rfl
theorem zboi {n:Nat} {lo hi:Option TV} {lo' hi':Option Value} {lh:Nat × Nat} (h1:∀ v,lo = some v → ∃ w,lo' = some w ∧ TR σ e tk v w) (h1':lo = none → lo' = none)
 (h2:∀ v,hi = some v → ∃ w,hi' = some w ∧ TR σ e tk v w) (h2':hi = none → hi' = none) (h:gv n lo hi = some lh):q9 n lo' hi' = some lh:=by
 rw [zbab]
 unfold gv at h
 obtain ⟨m,hm,hl⟩:=Option.bind_eq_some_iff.1 h
 have e1:vHi n hi' = some m:=by
  cases hi with
  | none => rw [h2' rfl]; exact hm
  | some v =>
   obtain ⟨w,rfl,hw⟩:=h2 v rfl
   cases v with
   | int k x => obtain rfl:=jv hw; exact hm
   | _ => cases hm
 rw [e1,Option.bind_some]
 cases lo with
 | none => rw [h1' rfl]; exact hl
 | some v =>
  obtain ⟨w,rfl,hw⟩:=h1 v rfl
  cases v with
  | int k x => obtain rfl:=jv hw; exact hl
  | _ => cases hl
theorem h9 {n:Nat} {lo hi:Option TV} {lh:Nat × Nat} (h:gv n lo hi = some lh):lh.1 ≤ lh.2 ∧ lh.2 ≤ n:=by
 unfold gv at h
 obtain ⟨m,hm,hl⟩:=Option.bind_eq_some_iff.1 h
 have hmn:m ≤ n:=by
  unfold tHi at hm
  split at hm
  · injection hm with hm; omega
  · split at hm
    · injection hm with hm; omega
    · cases hm
  · cases hm
 unfold tLo at hl
 split at hl
 · injection hl with hl; subst hl; exact ⟨Nat.zero_le _,hmn⟩
 · split at hl
   · injection hl with hl; subst hl; exact ⟨by simp only; omega,hmn⟩
   · cases hl
 · cases hl
theorem zbjr {k:FK} {v1 v2:TV} {b:Bool} {w1 w2:Value} (h1:TR σ e tk v1 w1) (h2:TR σ e tk v2 w2) (h:teq k v1 v2 = some b):zbhr k w1 w2 = some b:=by
 unfold teq at h
 split at h
 · rw [np h1,np h2]; exact h
 · rw [jv h1,jv h2]; exact h
 · rw [up h1,up h2]; exact h
 · cases h
theorem zaf6:∀ {ks:List FK} {a c:List TV} {b:Bool} {a' c':List Value},a.length = a'.length → c.length = c'.length → (∀ i,i < a.length → TR σ e tk (a.getD i .undef) (a'.getD i undef)) → (∀ i,i < c.length → TR σ e tk (c.getD i .undef) (c'.getD i undef)) →
 zbh7 ks a c = some b → sw ks a' c' = some b
 | [],[],[],b,[],[],_,_,_,_,h => h
 | [],[],_ :: _,_,_,_,_,_,_,_,h => by cases h
 | [],_ :: _,_,_,_,_,_,_,_,_,h => by cases h
 | _ :: _,[],_,_,_,_,_,_,_,_,h => by cases h
 | _ :: _,_ :: _,[],_,_,_,_,_,_,_,h => by cases h
 | [],[],[],_,_ :: _,_,hl,_,_,_,_ => by cases hl
 | [],[],[],_,[],_ :: _,_,hl,_,_,_ => by cases hl
 | _ :: _,_ :: _,_ :: _,_,[],_,hl,_,_,_,_ => by cases hl
 | _ :: _,_ :: _,_ :: _,_,_ :: _,[],_,hl,_,_,_ => by cases hl
 | k :: ks,v :: vs,u :: us,b,v' :: vs',u' :: us',h1,h2,r1,r2,h => by
  simp only [zbh7] at h
  split at h
  · rename_i p q hp hq
    injection h with h; subst h
    have a1:=r1 0 (by simp)
    have a2:=r2 0 (by simp)
    simp only [List.getD_cons_zero] at a1 a2
    have i1:=zaf6 (ks:=ks) (a:=vs) (c:=us) (a':=vs') (c':=us') (by simpa using h1) (by simpa using h2) (fun i hi => by have:=r1 (i + 1) (by simpa using hi); simpa using this)
     (fun i hi => by have:=r2 (i + 1) (by simpa using hi); simpa using this) hq
    simp only [sw,zbjr a1 a2 hp,i1]
  · cases h
end
end Go.Proofs.Ytgkkienmocpnbaa.Sh
