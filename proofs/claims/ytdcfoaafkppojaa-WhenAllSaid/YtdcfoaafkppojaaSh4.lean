/- The model's operations do what the shadow's language says. -/
import Derived.Test.YtdcfoaafkppojaaSh3
set_option linter.unusedVariables false
set_option linter.unusedSimpArgs false
namespace Go.Proofs.Ytdcfoaafkppojaa.Sh
open Go Go.RowKit
def km (P : Program) (B : Nat) (w0 : World) (m : Mp) (K : Value → ak → Prop) : Result Next → Prop
  | .ok (.value c) w' => ∃ v m' σ',m.le m' ∧ bu m' v c ∧ Rep B w0 σ' m' w' ∧ K v σ'
  | .ok .skip w' => ∃ m' σ',m.le m' ∧ Rep B w0 σ' m' w' ∧ K undef σ'
  | .ok (.enter f args) w' => Calls P f args w' fun e w'' => ∃ v c m' σ',e = .returned c ∧ m.le m' ∧ bu m' v c ∧ Rep B w0 σ' m' w'' ∧ K v σ'
  | _ => False
section
variable {P : Program} {B : Nat} {w0 : World} {σ : ak} {m : Mp} {w : World} {K : Value → ak → Prop}
theorem km.val {v c : Value} (h : Rep B w0 σ m w) (hv : bu m v c) (hK : K v σ) : km P B w0 m K (.ok (.value c) w) := ⟨v,m,σ,.refl m,hv,h,hK⟩
theorem km.mono {K' : Value → ak → Prop} {r : Result Next} (h : km P B w0 m K r) (hK : ∀ v σ',K v σ' → K' v σ') : km P B w0 m K' r := by
  cases r with
  | halt h' w' => exact h
  | ok n w' =>
    cases n with
    | value c => obtain ⟨v,m',σ',h1,h2,h3,h4⟩ := h; exact ⟨v,m',σ',h1,h2,h3,hK _ _ h4⟩
    | skip => obtain ⟨m',σ',h1,h2,h3⟩ := h; exact ⟨m',σ',h1,h2,hK _ _ h3⟩
    | enter f args => exact Calls.mono h fun e w'' ⟨v,c,m',σ',h1,h2,h3,h4,h5⟩ => ⟨v,c,m',σ',h1,h2,h3,h4,hK _ _ h5⟩
    | _ => exact h.elim
theorem zamb {o : Oper} {a : Act} {next : Act → World → Prop} {Q : Exit → Act → World → Prop} {r : Result Next} (h : km P B w0 m K r)
    (hn : ∀ v c m' σ' w',m.le m' → bu m' v c → Rep B w0 σ' m' w' → K v σ' → next (a.put o.dst c) w') : o.upon P a next Q r := by
  cases r with
  | halt h' w' => exact h.elim
  | ok n w' =>
    cases n with
    | value c => obtain ⟨v,m',σ',h1,h2,h3,h4⟩ := h; exact hn v c m' σ' w' h1 h2 h3 h4
    | skip => obtain ⟨m',σ',h1,h2,h3⟩ := h; exact hn undef undef m' σ' w' h1 (.undef _) h2 h3
    | enter f args =>
      refine Calls.mono h fun e w'' ⟨v,c,m',σ',h1,h2,h3,h4,h5⟩ => ?_
      subst h1
      exact hn v c m' σ' w'' h2 h3 h4 h5
    | _ => exact h.elim
theorem qn {t : TypeId} {b : Bool} (h : zaby P t = some b) (w : World) : (isAgg t).run P w = .ok b w := by
  unfold zaby at h
  cases hu : P.underlying t with
  | none => simp [hu] at h
  | some d =>
    simp only [isAgg,Sem.run_bind,run_underlying hu,Result.andThen_ok]
    cases d <;> simp_all
theorem pj {t : TypeId} {n : Nat} (h : szT P t = some n) (w : World) : (sizeOf t).run P w = .ok n w := by
  unfold szT at h
  cases hi : P.info? t with
  | none => simp [hi] at h
  | some i => rw [run_sizeOf w hi]; simp [Program.cellsOf,h]
theorem szT_info {t : TypeId} {n : Nat} (h : szT P t = some n) : ∃ i,P.info? t = some i ∧ i.size = n := by
  unfold szT at h
  cases hi : P.info? t with
  | none => simp [hi] at h
  | some i => exact ⟨i,rfl,by simpa [hi] using h⟩
theorem vrel_vbin {op : BinOp} {v1 v2 c1 c2 r : Value} (h1 : bu m v1 c1) (h2 : bu m v2 c2) (h : zi op v1 v2 = some r) (t : TypeId) : (binOp op t c1 c2).run P w = .ok r w ∧ bu m r r := by
  cases v1 with
  | int k x =>
    cases v2 with
    | int k' y =>
      have := zl h1; subst this
      have := zl h2; subst this
      cases op with
      | shl | shr =>
        simp only [zi,zaqv] at h
        split at h
        · cases h
        · rename_i hy
          injection h with h; subst h
          exact ⟨by simp only [binOp,Op.shift,if_neg hy]; rfl,.int _ _⟩
      | quo | rem =>
        simp only [zi,zarz] at h
        split at h
        · rename_i hk
          subst hk
          split at h
          · cases h
          · rename_i hy
            injection h with h; subst h
            exact ⟨by simp [binOp,Op.intDiv,if_neg hy],.int _ _⟩
        · cases h
      | add | sub | mul | and | or | xor | andNot =>
        simp only [zi,zarz] at h
        split at h
        · rename_i hk
          subst hk
          injection h with h; subst h
          exact ⟨by simp [binOp,Op.intArith,Op.intBits],.int _ _⟩
        · cases h
      | eql | neq | lss | leq | gtr | geq =>
        simp only [zi,zarz] at h
        split at h
        · rename_i hk
          subst hk
          injection h with h; subst h
          exact ⟨by simp [binOp,Op.intCmp],.bool _⟩
        · cases h
    | _ => simp [zi] at h
  | string x =>
    cases v2 with
    | string y =>
      have := zao0 h1; subst this
      have := zao0 h2; subst this
      cases op with
      | add =>
        simp only [zi,sbin] at h
        split at h
        · cases h
        · rename_i hy
          injection h with h; subst h
          exact ⟨by simp only [binOp,Op.stringOp,if_neg hy]; rfl,.string _⟩
      | eql | neq =>
        simp only [zi,sbin] at h
        injection h with h; subst h
        exact ⟨by simp [binOp,Op.stringOp],.bool _⟩
      | _ => simp [zi,sbin] at h
    | _ => simp [zi] at h
  | _ => simp [zi] at h
theorem zaae {op : BinOp} {t : TypeId} {x y : Operand} {c1 c2 : Value} (h1 : ∀ a,c1 ≠ .agg a) (h2 : c1 ≠ .nilIface) : (eqGuard op t x y c1 c2).run P w = .ok () w := by
  unfold eqGuard
  cases op <;> simp only [Bool.not_true,Bool.not_false,Bool.false_eq_true,if_true,if_false] <;> first | rfl | skip
  all_goals (cases c1 <;> first | rfl | exact absurd rfl h2 | exact absurd rfl (h1 _))
theorem vrel_vun {op : UnOp} {v c r : Value} (h1 : bu m v c) (h : vun op v = some r) : (Op.unary op c).run P w = .ok r w ∧ bu m r r := by
  cases op with
  | neg =>
    cases v with
    | int k n =>
      have := zl h1; subst this
      simp only [vun] at h
      injection h with h; subst h
      exact ⟨by simp [Op.unary,Op.intArith],.int _ _⟩
    | _ => simp [vun] at h
  | xor =>
    cases v with
    | int k n =>
      have := zl h1; subst this
      simp only [vun] at h
      injection h with h; subst h
      exact ⟨by simp [Op.unary,Op.intBits],.int _ _⟩
    | _ => simp [vun] at h
  | not =>
    cases v with
    | bool b =>
      have := zao1 h1; subst this
      simp only [vun] at h
      injection h with h; subst h
      exact ⟨by simp [Op.unary],.bool _⟩
    | _ => simp [vun] at h
  | plus => simp [vun] at h
theorem zarc {v c : Value} (h : bu m v c) : v.cells.size = c.cells.size ∧ ∀ j,j < v.cells.size → bu m (v.cells.getD j undef) (c.cells.getD j undef) := by
  cases h with
  | agg a b hs h => exact ⟨hs,h⟩
  | bool b => exact ⟨rfl,fun j hj => by simp [Value.cells] at hj; subst hj; exact .bool _⟩
  | int k n => exact ⟨rfl,fun j hj => by simp [Value.cells] at hj; subst hj; exact .int _ _⟩
  | string s => exact ⟨rfl,fun j hj => by simp [Value.cells] at hj; subst hj; exact .string _⟩
  | nilP => exact ⟨rfl,fun j hj => by simp [Value.cells] at hj; subst hj; exact .nilP⟩
  | ptr i o h => exact ⟨rfl,fun j hj => by simp [Value.cells] at hj; subst hj; exact .ptr i o h⟩
  | nilS => exact ⟨rfl,fun j hj => by simp [Value.cells] at hj; subst hj; exact .nilS⟩
  | slice i o n s k h hk hr => exact ⟨rfl,fun j hj => by simp [Value.cells] at hj; subst hj; exact .slice i o n s k h hk hr⟩
  | sliceE i o s ae => exact ⟨rfl,fun j hj => by simp [Value.cells] at hj; subst hj; exact .sliceE i o s ae⟩
  | nilM => exact ⟨rfl,fun j hj => by simp [Value.cells] at hj; subst hj; exact .nilM⟩
  | map i h => exact ⟨rfl,fun j hj => by simp [Value.cells] at hj; subst hj; exact .map i h⟩
  | nilF => exact ⟨rfl,fun j hj => by simp [Value.cells] at hj; subst hj; exact .nilF⟩
  | nilI => exact ⟨rfl,fun j hj => by simp [Value.cells] at hj; subst hj; exact .nilI⟩
  | func fn a b c d ha hb h1 h2 => exact ⟨rfl,fun j hj => by simp [Value.cells] at hj; subst hj; exact .func fn a b c d ha hb h1 h2⟩
  | tuple a b hs h => exact ⟨rfl,fun j hj => by simp [Value.cells] at hj; subst hj; exact .tuple a b hs h⟩
theorem cw (a : Array Value) (j : Nat) : a.toList.getD j undef = a.getD j undef := by simp [List.getD,Array.getD_eq_getD_getElem?]
theorem bo (a : List Value) (j : Nat) : a.toArray.getD j undef = a.getD j undef := by simp [List.getD,Array.getD_eq_getD_getElem?]
theorem zas3 (t : TypeId) (c : Value) : (newVar t c).run P w = .ok ⟨w.heap.size,0,none⟩ (w.alloc (.cells c.cells t)) := rfl
theorem za50 {v c : Value} (h : Rep B w0 σ m w) (hv : bu m v c) (t : TypeId) (h1 : ∀ j,j < v.cells.size → scalar (v.cells.getD j undef) = true)
    (hK : K (.pointer (some ⟨σ.next,0,none⟩)) (σ.push (.cells t v.cells.toList .rw))) :
    km P B w0 m K (.ok (.value (.pointer (some ⟨w.heap.size,0,none⟩))) (w.alloc (.cells c.cells t))) := by
  obtain ⟨hs,hc⟩ := zarc hv
  have hp := h.pushCells t v.cells.toList c.cells.toList [] (by simpa using hs.symm) (fun j hj => by rw [cw,cw]; exact hc j (by simpa using hj))
    (fun j hj => by rw [cw]; exact h1 j (by simpa using hj)) (0,0) (fun o _ => by simp)
  simp only [List.append_nil,Array.toArray_toList] at hp
  refine ⟨_,_,_,m.le_push _,?_,hp,hK⟩
  have := bu.ptr (m := m.push ⟨w.heap.size,0,v.cells.toList.length + ([] : List Value).length⟩) σ.next 0 (by simp [Mp.push,h.next])
  simpa [Mp.push,h.next] using this
theorem zaw0 {t : TypeId} {n : Nat} (hs : szT P t = some n) (ad : Addr) (c : Value) (hc : c.cells.size = n) : (storeVar t ad c).run P w = (storeCells ad c.cells.toList).run P w := by
  simp [storeVar,pj hs,hc]
theorem zarg {n : Nat} {lo hi : Option Operand} {N : Nat} {fr : Fr} {a : Act} (hf : ie m N fr a) (hlo : okOo N lo = true) (hhi : okOo N hi = true) {l h : Nat} (hb : zabz n (lo.map (evO fr)) (hi.map (evO fr)) = some (l,h)) (isS : Bool) (cap : Nat) (hcap : n ≤ cap) :
    ∃ cm,(Instr.sliceBounds isS n cap (lo.map a.eval) (hi.map a.eval) none).run P w = .ok (l,h,cm) w ∧ cm = cap ∧ l ≤ h ∧ h ≤ n := by
  unfold zabz at hb
  have bnd : ∀ (k : IntKind) (i : Int) (y : Nat) (code : BoundsCode),0 ≤ i → i ≤ y → (Instr.sliceBound (.int k i) y code).run P w = .ok i.toNat w := fun k i y code h1 h2 => by
    simp [Instr.sliceBound,asIntOf,h1,h2]
  have hl : ∀ hh : Nat,hh ≤ n → (match lo.map (evO fr) with | none => some (0,hh) | some (.int _ l) => if 0 ≤ l ∧ l ≤ hh then some (l.toNat,hh) else none | some _ => none) = some (l,h) →
      (match lo.map a.eval with | some v => Instr.sliceBound v hh (if (none : Option Value).isSome then .slice3C else .sliceB) | none => pure 0 : Sem Nat).run P w = .ok l w ∧ hh = h ∧ l ≤ h := by
    intro hh _ e
    cases lo with
    | none => simp at e; obtain ⟨rfl,rfl⟩ := e; exact ⟨rfl,rfl,Nat.zero_le _⟩
    | some x =>
      have hx := ba hf (show okO N x = true from hlo)
      simp only [Option.map_some] at e ⊢
      generalize hq : evO fr x = q at e hx
      cases q with
      | int k i =>
        have := zl hx
        rw [this]
        simp only at e ⊢
        split at e
        · rename_i hh2
          simp at e
          obtain ⟨rfl,rfl⟩ := e
          exact ⟨bnd _ _ _ _ hh2.1 hh2.2,rfl,by omega⟩
        · cases e
      | _ => simp at e
  cases hi with
  | none =>
    simp only [Option.map_none] at hb ⊢
    obtain ⟨e1,rfl,e3⟩ := hl n (Nat.le_refl _) hb
    refine ⟨cap,?_,rfl,e3,Nat.le_refl _⟩
    simp only [Instr.sliceBounds,Sem.run_bind,Sem.run_pure,Result.andThen_ok]
    cases lo with
    | none => simp at e1 ⊢; exact e1
    | some x => simp only [Option.map_some] at e1 ⊢; simp only [Sem.run_bind,e1,Result.andThen_ok,Sem.run_pure]
  | some x =>
    have hx := ba hf (show okO N x = true from hhi)
    simp only [Option.map_some] at hb ⊢
    generalize hq : evO fr x = q at hb hx
    cases q with
    | int k i =>
      have := zl hx
      rw [this]
      simp only at hb
      split at hb
      · cases hb
      · rename_i hh hhe
        split at hhe
        · rename_i hc
          injection hhe with hhe
          obtain ⟨e1,e2,e3⟩ := hl hh (by omega) hb
          subst e2
          refine ⟨cap,?_,rfl,e3,by omega⟩
          simp only [Instr.sliceBounds,Sem.run_bind,Sem.run_pure,Result.andThen_ok]
          rw [bnd k i cap _ hc.1 (by omega),hhe]
          simp only [Result.andThen_ok]
          cases lo with
          | none => simp at e1 ⊢; exact e1
          | some x => simp only [Option.map_some] at e1 ⊢; simp only [Sem.run_bind,e1,Result.andThen_ok,Sem.run_pure]
        · cases hhe
    | _ => simp at hb
end
end Go.Proofs.Ytdcfoaafkppojaa.Sh
