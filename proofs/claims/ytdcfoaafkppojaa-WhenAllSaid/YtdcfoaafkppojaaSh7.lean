/- Functions; a law's call in the shadow and in the model. -/
import Derived.Test.YtdcfoaafkppojaaSh6
import Derived.RowKit3
set_option linter.unusedVariables false
set_option linter.unusedSimpArgs false
namespace Go.Proofs.Ytdcfoaafkppojaa.Sh
open Go Go.RowKit
inductive R where
  | tmp (t : Nat)
  | cell1 (t : Nat)
  | cellN (t n : Nat)
def compR (P : Program) (N : Nat) : ResultVar → Option R
  | .tmp t => if t < N then some (.tmp t) else none
  | .cell t ty => if t < N then
      match zaby P ty,szT P ty with
      | some true,some n => some (.cellN t n)
      | some false,some _ => some (.cell1 t)
      | _,_ => none
    else none
def zat0 (P : Program) (N : Nat) : List ResultVar → Option (List R)
  | [] => some []
  | r :: l => match compR P N r,zat0 P N l with
    | some x,some y => some (x :: y)
    | _,_ => none
def zamf (v : Value) (f : Addr → Option Value) : Option Value := match v with | .pointer (some a) => f a | _ => none
def ud (fr : Fr) (σ : ak) : R → Option Value
  | .tmp t => some (fr t)
  | .cell1 t => zamf (fr t) fun a => σ.load a.block a.off
  | .cellN t n => zamf (fr t) fun a => (σ.row a.block a.off n).map fun l => .agg l.toArray
def xm (fr : Fr) (σ : ak) : List R → Option (List Value)
  | [] => some []
  | r :: l => match ud fr σ r,xm fr σ l with
    | some x,some y => some (x :: y)
    | _,_ => none
def za3p (rs : List R) (fr : Fr) (σ : ak) (K : Value → Prop) : Prop :=
  match rs with
  | [r] => ma (ud fr σ r) K
  | rs => ma (xm fr σ rs) fun l => K (.tuple l.toArray)
def za0e (rs : List R) (Post : Value → ak → Prop) : Exit → Fr → ak → Prop
  | .normal => fun fr σ => za3p rs fr σ fun v => Post v σ
  | .ret => fun fr σ => za3p rs fr σ fun v => Post v σ
  | _ => fun _ _ => False
def zav3 (args : List Value) : Fr := fun t => args.getD t undef
section
variable {P : Program} {N : Nat} {B : Nat} {w0 : World} {σ : ak} {m : Mp} {w : World} {fr : Fr} {a : Act}
def zaw5 (tmps : Array Value) : ResultVar → Sem Value
  | .tmp t => pure (tmps.getD t undef)
  | .cell t ty => do loadVar ty (← asAddr (tmps.getD t undef))
theorem results_eq (fn : Func) (tmps : Array Value) : results fn tmps = (do let vs ← fn.results.mapM (zaw5 tmps); pure (if h : vs.size = 1 then vs[0] else .tuple vs)) := rfl
theorem resOne_run {r : ResultVar} {x : R} (hc : compR P N r = some x) (h : Rep B w0 σ m w) (hf : ie m N fr a) {v : Value} (hv : ud fr σ x = some v) :
    ∃ c,(zaw5 a.tmps r).run P w = .ok c w ∧ bu m v c := by
  cases r with
  | tmp t =>
    simp only [compR] at hc
    split at hc
    · rename_i ht
      injection hc with hc; subst hc
      simp only [ud] at hv
      injection hv with hv; subst hv
      exact ⟨_,rfl,hf.at_ t ht⟩
    · cases hc
  | cell t ty =>
    simp only [compR] at hc
    split at hc
    · rename_i ht
      have hp := hf.at_ t ht
      split at hc
      · rename_i n ha hn
        injection hc with hc; subst hc
        simp only [ud] at hv
        simp only [zaw5]
        generalize a.tmps.getD t undef = c at hp ⊢
        generalize fr t = q at hp hv
        cases hp with
        | ptr i o hi =>
          simp only [zamf] at hv
          cases hl : σ.row i o n with
          | none => rw [hl] at hv; cases hv
          | some l =>
            rw [hl] at hv
            injection hv with hv; subst hv
            obtain ⟨cs,h1,h2,h3,_⟩ := h.row P (by rw [← h.next]; exact hi) hl
            refine ⟨.agg cs.toArray,?_,.agg _ _ (by simpa using h1.symm) fun j hj => ?_⟩
            · simp only [asAddr,loadVar,Sem.run_bind,Sem.run_pure,Result.andThen_ok,qn ha,if_true,pj hn,h2]
            · rw [bo,bo]; exact h3 j (by simpa using hj)
        | _ => simp [zamf] at hv
      · rename_i n ha hn
        injection hc with hc; subst hc
        simp only [ud] at hv
        simp only [zaw5]
        generalize a.tmps.getD t undef = c at hp ⊢
        generalize fr t = q at hp hv
        cases hp with
        | ptr i o hi =>
          simp only [zamf] at hv
          obtain ⟨cc,h1,h2,h3⟩ := h.cell (by rw [← h.next]; exact hi) hv
          exact ⟨cc,by simp only [asAddr,loadVar,Sem.run_bind,Sem.run_pure,Result.andThen_ok,qn ha,Bool.false_eq_true,if_false,run_load,h1],h2⟩
        | _ => simp [zamf] at hv
      · cases hc
    · cases hc
theorem za1g {rs : List ResultVar} : ∀ {xs : List R},zat0 P N rs = some xs → Rep B w0 σ m w → ie m N fr a → ∀ {vs : List Value},xm fr σ xs = some vs →
    ∃ cs : List Value,(rs.mapM (zaw5 a.tmps)).run P w = .ok cs w ∧ cs.length = vs.length ∧ ∀ i,i < vs.length → bu m (vs.getD i undef) (cs.getD i undef) := by
  induction rs with
  | nil =>
    intro xs hc h hf vs hv
    injection hc with hc; subst hc
    injection hv with hv; subst hv
    exact ⟨[],by simp,rfl,fun i hi => by simp at hi⟩
  | cons r l ih =>
    intro xs hc h hf vs hv
    simp only [zat0] at hc
    split at hc
    · rename_i x y hx hy
      injection hc with hc; subst hc
      simp only [xm] at hv
      split at hv
      · rename_i v1 v2 h1 h2
        injection hv with hv; subst hv
        obtain ⟨c,r1,r2⟩ := resOne_run hx h hf h1
        obtain ⟨cs,r3,r4,r5⟩ := ih hy h hf h2
        refine ⟨c :: cs,?_,by simp [r4],fun i hi => ?_⟩
        · simp only [List.mapM_cons,Sem.run_bind,r1,Result.andThen_ok]
          rw [r3]
          simp
        · cases i with
          | zero => simpa [List.getD] using r2
          | succ i => simpa [List.getD] using r5 i (by simpa using hi)
      · cases hv
    · cases hc
theorem za1f {fn : Func} {xs : List R} (hc : zat0 P N fn.results.toList = some xs) (h : Rep B w0 σ m w) (hf : ie m N fr a) {K : Value → Prop} (hK : za3p xs fr σ K) :
    ∃ v c,(results fn a.tmps).run P w = .ok c w ∧ bu m v c ∧ K v := by
  have hl : ∃ vs,xm fr σ xs = some vs ∧ K (if h : vs.length = 1 then vs[0] else .tuple vs.toArray) := by
    unfold za3p at hK
    split at hK
    · rename_i r
      cases ho : ud fr σ r with
      | none => rw [ho] at hK; exact hK.elim
      | some v => rw [ho] at hK; exact ⟨[v],by simp [xm,ho],hK⟩
    · rename_i hne
      cases ho : xm fr σ xs with
      | none => rw [ho] at hK; exact hK.elim
      | some vs =>
        rw [ho] at hK
        refine ⟨vs,rfl,?_⟩
        have hn : vs.length ≠ 1 := fun e => by
          cases xs with
          | nil => injection ho with ho; subst ho; simp at e
          | cons r l =>
            cases l with
            | nil => exact hne r rfl
            | cons r2 l2 =>
              simp only [xm] at ho
              split at ho
              · rename_i a1 a2 e1 e2
                split at e2
                · injection e2 with e2; subst e2; injection ho with ho; subst ho; simp at e
                · cases e2
              · cases ho
        rw [dif_neg hn]
        exact hK
  obtain ⟨vs,hvs,hKv⟩ := hl
  obtain ⟨cs,r1,r2,r3⟩ := za1g hc h hf hvs
  refine ⟨_,(if h : cs.length = 1 then cs[0] else .tuple cs.toArray),?_,?_,hKv⟩
  · rw [results_eq,Array.mapM_eq_mapM_toList]
    simp only [Sem.run_bind,Sem.run_map,r1,Result.andThen_ok,Sem.run_pure]
    simp
  · by_cases h1 : vs.length = 1
    · rw [dif_pos h1,dif_pos (by omega)]
      have := r3 0 (by omega)
      simpa [List.getD,h1,r2] using this
    · rw [dif_neg h1,dif_neg (by omega)]
      exact .tuple _ _ (by simp [r2]) fun i hi => by rw [bo,bo]; exact r3 i (by simpa using hi)
theorem callOK_of {f : FuncId} {fn : Func} {c : Code} {ic : IC} {rs : List R} {args : List Value} {Post : Value → ak → Prop} (hf : P.funcs[f]? = some fn) (hn : fn.name ≠ "runtime.NumGoroutine") (hb : fn.body = some c)
    {H : List (Nat × DH)} (hc : rf P fn.ntmps H c = some ic) (hrs : zat0 P fn.ntmps fn.results.toList = some rs) (hlen : args.length ≤ fn.ntmps)
    (h : evC P fn.ntmps ic (za0e rs Post) (zav3 args) σ) : io P f args σ Post := by
  refine ⟨by simp [zakn,hf,hn,hb],fun B w0 m w cargs hr hs hv => ?_⟩
  refine calls_of_wp hf hb ?_
  have hfr : ie m fn.ntmps (zav3 args) { tmps := cargs ++ Array.replicate (fn.ntmps - cargs.size) undef,defers := [] } := by
    refine ⟨rfl,by simp; omega,fun t ht => ?_⟩
    simp only [zav3]
    by_cases hlt : t < args.length
    · have := hv t hlt
      have e : (cargs ++ Array.replicate (fn.ntmps - cargs.size) undef).getD t undef = cargs.getD t undef := by
        simp [Array.getD_eq_getD_getElem?,Array.getElem?_append_left (show t < cargs.size by omega)]
      rw [e]; exact this
    · have e : (cargs ++ Array.replicate (fn.ntmps - cargs.size) undef).getD t undef = undef := by
        have h1 : t - cargs.size < fn.ntmps - cargs.size := by omega
        simp [Array.getD_eq_getD_getElem?,Array.getElem?_append_right (show cargs.size ≤ t by omega),h1]
      have e2 : args.getD t undef = undef := by simp [List.getD,List.getElem?_eq_none (show args.length ≤ t by omega)]
      rw [e,e2]; exact .undef m
  refine wp_mono (zaq7 c ic hc _ _ _ h B w0 m w _ hr hfr) ?_
  rintro e a' w' ⟨m',fr',σ',h1,h2,h3,h4⟩
  have fin : za3p rs fr' σ' (fun v => Post v σ') → ∃ v,(results fn a'.tmps).run P w' = .ok v w' ∧ ∃ v_1 c m' σ',Ending.returned v = .returned c ∧ m.le m' ∧ bu m' v_1 c ∧ Rep B w0 σ' m' w' ∧ Post v_1 σ' := fun hk => by
    obtain ⟨v,c,r1,r2,r3⟩ := za1f hrs h2 h3 hk
    exact ⟨c,r1,v,c,m',σ',rfl,h1,r2,h2,r3⟩
  cases e with
  | normal => exact ⟨h3.defers,fin h4⟩
  | ret => exact ⟨h3.defers,fin h4⟩
  | _ => exact h4.elim
def tu (P : Program) (H : List (Nat × DH)) (f : FuncId) : Option (Nat × IC × List R) :=
  match P.funcs[f]? with
  | some fn => if fn.name == "runtime.NumGoroutine" then none else
    match fn.body.bind (rf P fn.ntmps H),zat0 P fn.ntmps fn.results.toList with
    | some ic,some rs => some (fn.ntmps,ic,rs)
    | _,_ => none
  | none => none
theorem zako {f : FuncId} {N : Nat} {ic : IC} {rs : List R} {H : List (Nat × DH)} (h : tu P H f = some (N,ic,rs)) {args : List Value} {Post : Value → ak → Prop} (hlen : args.length ≤ N)
    (hev : evC P N ic (za0e rs Post) (zav3 args) σ) : io P f args σ Post := by
  unfold tu at h
  split at h
  · rename_i fn hf
    split at h
    · cases h
    · rename_i hn
      split at h
      · rename_i ic' rs' hic hrs
        simp only [Option.some.injEq,Prod.mk.injEq] at h
        obtain ⟨rfl,rfl,rfl⟩ := h
        cases hb : fn.body with
        | none => rw [hb] at hic; cases hic
        | some c =>
          rw [hb] at hic
          exact callOK_of hf (by simpa using hn) hb hic hrs hlen hev
      · cases h
  · cases h
end
theorem zaob {W W' : World} (h : Below W.heap.size W W') (may : MemPlace → Prop) : W.keptBut W' may := by
  refine ⟨h.os,h.output,fun i hi => ?_⟩
  rw [h.block i hi]
  have hs : W.heap[i]? = some W.heap[i] := Array.getElem?_eq_getElem hi
  rw [hs]
  generalize W.heap[i] = o
  cases o <;> simp
theorem zaib {H : Type} {enc : TypeId × Value → H} {P : Program} (hl : laidOutB P = true) {W W' : World} (hb : Below W.heap.size W W') : ∀ (ts : List TypeId) (vs : List Value) (ds : List (DataW H)) (ps : List MemPlace),
    (ts.all fun t => P.readableRec t && decide (t < P.types.size)) = true → DataW.TrodAll enc P W 0 (fun _ => true) true ts vs ds ps → (∀ x ∈ ps,x.block < W.heap.size) →
    DataW.TrodAll enc P W' 0 (fun b => decide (b < W.heap.size)) true ts vs ds ps
  | [],[],[],ps,_,h,_ => h
  | [],_ :: _,_,_,_,h,_ => h.elim
  | [],[],_ :: _,_,_,h,_ => h.elim
  | _ :: _,[],_,_,_,h,_ => h.elim
  | _ :: _,_ :: _,[],_,_,h,_ => h.elim
  | t :: ts,v :: vs,d :: ds,ps,hc,h,hp => by
    obtain ⟨p,q,h1,h2,rfl⟩ := h
    simp only [List.all_cons,Bool.and_eq_true,decide_eq_true_eq] at hc
    exact ⟨p,q,Below.trod hl hc.1.1 hc.1.2 h1 hb (fun x hx => hp x (List.mem_append_left _ hx)),zaib hl hb ts vs ds q (by simpa using hc.2) h2 (fun x hx => hp x (List.mem_append_right _ hx)),rfl⟩
end Go.Proofs.Ytdcfoaafkppojaa.Sh
