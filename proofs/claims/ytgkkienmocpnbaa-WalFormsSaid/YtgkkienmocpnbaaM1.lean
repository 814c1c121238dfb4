import Derived.Test.YtgkkienmocpnbaaM0
import Derived.Lib.ConvBytes
import Derived.Laws.BytesString
import Derived.Lib.AppendStr
import Derived.Laws.BytesArg
set_option linter.unusedVariables false
set_option linter.unusedSimpArgs false
namespace Go.Proofs.Ytgkkienmocpnbaa.Sh
open Go Go.RowKit
def ki (P:Program) (B:Nat) (w0:World) (m:Mp) (K:Value → ah → Prop):Result Next → Prop
 | .ok (.value c) w' => ∃ v m' σ',m.le m' ∧ bm m' v c ∧ Rep B w0 σ' m' w' ∧ K v σ'
 | .ok .skip w' => ∃ m' σ',m.le m' ∧ Rep B w0 σ' m' w' ∧ K undef σ'
 | .ok (.enter f args) w' => Calls P f args w' fun e w'' => ∃ v c m' σ',e = .returned c ∧ m.le m' ∧ bm m' v c ∧ Rep B w0 σ' m' w'' ∧ K v σ'
 | _ => False
section
variable {P:Program} {B:Nat} {w0:World} {σ:ah} {m:Mp} {w:World} {K:Value → ah → Prop}
theorem ki.val {v c:Value} (h:Rep B w0 σ m w) (hv:bm m v c) (hK:K v σ):ki P B w0 m K (.ok (.value c) w):=⟨v,m,σ,.refl m,hv,h,hK⟩
theorem ki.mono {K':Value → ah → Prop} {r:Result Next} (h:ki P B w0 m K r) (hK:∀ v σ',K v σ' → K' v σ'):ki P B w0 m K' r:=by
 cases r with
 | halt h' w' => exact h
 | ok n w' =>
  cases n with
  | value c => obtain ⟨v,m',σ',h1,h2,h3,h4⟩:=h; exact ⟨v,m',σ',h1,h2,h3,hK _ _ h4⟩
  | skip => obtain ⟨m',σ',h1,h2,h3⟩:=h; exact ⟨m',σ',h1,h2,hK _ _ h3⟩
  | enter f args => exact Calls.mono h fun e w'' ⟨v,c,m',σ',h1,h2,h3,h4,h5⟩ => ⟨v,c,m',σ',h1,h2,h3,h4,hK _ _ h5⟩
  | _ => exact h.elim
theorem zbyh {o:Oper} {a:Act} {next:Act → World → Prop} {Q:Exit → Act → World → Prop} {r:Result Next} (h:ki P B w0 m K r)
 (hn:∀ v c m' σ' w',m.le m' → bm m' v c → Rep B w0 σ' m' w' → K v σ' → next (a.put o.dst c) w'):o.upon P a next Q r:=by
 cases r with
 | halt h' w' => exact h.elim
 | ok n w' =>
  cases n with
  | value c => obtain ⟨v,m',σ',h1,h2,h3,h4⟩:=h; exact hn v c m' σ' w' h1 h2 h3 h4
  | skip => obtain ⟨m',σ',h1,h2,h3⟩:=h; exact hn undef undef m' σ' w' h1 (.undef _) h2 h3
  | enter f args =>
   refine Calls.mono h fun e w'' ⟨v,c,m',σ',h1,h2,h3,h4,h5⟩ => ?_
   subst h1
   exact hn v c m' σ' w'' h2 h3 h4 h5
  | _ => exact h.elim
theorem od {t:TypeId} {b:Bool} (h:rz P t = some b) (w:World):(isAgg t).run P w = .ok b w:=by
 unfold rz at h
 cases hu:P.underlying t with
 | none => simp [hu] at h
 | some d =>
  simp only [isAgg,Sem.run_bind,run_underlying hu,Result.andThen_ok]
  cases d <;> simp_all
theorem nv {t:TypeId} {n:Nat} (h:szT P t = some n) (w:World):(sizeOf t).run P w = .ok n w:=by
 unfold szT at h
 cases hi:P.info? t with
 | none => simp [hi] at h
 | some i => rw [run_sizeOf w hi]; simp [Program.cellsOf,h]
theorem vm {op:BinOp} {v1 v2 c1 c2 r:Value} (h1:bm m v1 c1) (h2:bm m v2 c2) (h:a6 op v1 v2 = some r) (t:TypeId):(binOp op t c1 c2).run P w = .ok r w ∧ bm m r r:=by
 cases v1 with
 | int k x =>
  cases v2 with
  | int k' y =>
   have:=tw h1; subst this
   have:=tw h2; subst this
   cases op with
   | shl | shr =>
    simp only [a6,zbfs] at h
    split at h
    · cases h
    · rename_i hy
      injection h with h; subst h
      exact ⟨by simp only [binOp,Op.shift,if_neg hy]; rfl,.int _ _⟩
   | quo | rem =>
    simp only [a6,df] at h
    split at h
    · rename_i hk
      subst hk
      split at h
      · cases h
      · rename_i hy
        injection h with h; subst h
        exact ⟨by simp [binOp,Op.intDiv,if_neg hy],.int _ _⟩
    · cases h
   | add | sub | mul | and | or | xor | andNot =>
    simp only [a6,df] at h
    split at h
    · rename_i hk
      subst hk
      injection h with h; subst h
      exact ⟨by simp [binOp,Op.intArith,Op.intBits],.int _ _⟩
    · cases h
   | eql | neq | lss | leq | gtr | geq =>
    simp only [a6,df] at h
    split at h
    · rename_i hk
      subst hk
      injection h with h; subst h
      exact ⟨by simp [binOp,Op.intCmp],.bool _⟩
    · cases h
  | _ => simp [a6] at h
 | string x =>
  cases v2 with
  | string y =>
   have:=zbmo h1; subst this
   have:=zbmo h2; subst this
   cases op with
   | add =>
    simp only [a6,zaqi] at h
    split at h
    · cases h
    · rename_i hy
      injection h with h; subst h
      exact ⟨by simp only [binOp,Op.stringOp,if_neg hy]; rfl,.string _⟩
   | eql | neq =>
    simp only [a6,zaqi] at h
    injection h with h; subst h
    exact ⟨by simp [binOp,Op.stringOp],.bool _⟩
   | _ => simp [a6,zaqi] at h
  | _ => simp [a6] at h
 | _ => simp [a6] at h
theorem zbpc {op:BinOp} {t:TypeId} {x y:Operand} {c1 c2:Value} (h1:∀ a,c1 ≠ .agg a) (h2:c1 ≠ .nilIface):(eqGuard op t x y c1 c2).run P w = .ok () w:=by
 unfold eqGuard
 cases op <;> simp only [Bool.not_true,Bool.not_false,Bool.false_eq_true,if_true,if_false] <;> first | rfl | skip
 all_goals (cases c1 <;> first | rfl | exact absurd rfl h2 | exact absurd rfl (h1 _))
theorem zbbq {op:UnOp} {v c r:Value} (h1:bm m v c) (h:vun op v = some r):(Op.unary op c).run P w = .ok r w ∧ bm m r r:=by
 cases op with
 | neg =>
  cases v with
  | int k n =>
   have:=tw h1; subst this
   simp only [vun] at h
   injection h with h; subst h
   exact ⟨by simp [Op.unary,Op.intArith],.int _ _⟩
  | _ => simp [vun] at h
 | xor =>
  cases v with
  | int k n =>
   have:=tw h1; subst this
   simp only [vun] at h
   injection h with h; subst h
   exact ⟨by simp [Op.unary,Op.intBits],.int _ _⟩
  | _ => simp [vun] at h
 | not =>
  cases v with
  | bool b =>
   have:=zbl8 h1; subst this
   simp only [vun] at h
   injection h with h; subst h
   exact ⟨by simp [Op.unary],.bool _⟩
  | _ => simp [vun] at h
 | plus => simp [vun] at h
theorem zbno {v c:Value} (h:bm m v c):v.cells.size = c.cells.size ∧ ∀ j,j < v.cells.size → bm m (v.cells.getD j undef) (c.cells.getD j undef):=by
 cases h with
 | agg a b hs h => exact ⟨hs,h⟩
 | bool b => exact ⟨rfl,fun j hj => by simp [Value.cells] at hj; subst hj; exact .bool _⟩
 | int k n => exact ⟨rfl,fun j hj => by simp [Value.cells] at hj; subst hj; exact .int _ _⟩
 | string s => exact ⟨rfl,fun j hj => by simp [Value.cells] at hj; subst hj; exact .string _⟩
 | nilP => exact ⟨rfl,fun j hj => by simp [Value.cells] at hj; subst hj; exact .nilP⟩
 | ptr i o h => exact ⟨rfl,fun j hj => by simp [Value.cells] at hj; subst hj; exact .ptr i o h⟩
 | nilS => exact ⟨rfl,fun j hj => by simp [Value.cells] at hj; subst hj; exact .nilS⟩
 | slice i o n s k h hk hr => exact ⟨rfl,fun j hj => by simp [Value.cells] at hj; subst hj; exact .slice i o n s k h hk hr⟩
 | sliceE i o s ae => exact ⟨rfl,fun j hj => by simp [Value.cells] at hj; subst hj; exact .sliceE i o s ae⟩
 | nilM => exact ⟨rfl,fun j hj => by simp [Value.cells] at hj; subst hj; exact .nilM⟩
 | map i h => exact ⟨rfl,fun j hj => by simp [Value.cells] at hj; subst hj; exact .map i h⟩
 | nilF => exact ⟨rfl,fun j hj => by simp [Value.cells] at hj; subst hj; exact .nilF⟩
 | nilI => exact ⟨rfl,fun j hj => by simp [Value.cells] at hj; subst hj; exact .nilI⟩
 | func fn a b c d ha hb h1 h2 => exact ⟨rfl,fun j hj => by simp [Value.cells] at hj; subst hj; exact .func fn a b c d ha hb h1 h2⟩
 | tuple a b hs h => exact ⟨rfl,fun j hj => by simp [Value.cells] at hj; subst hj; exact .tuple a b hs h⟩
theorem ay (a:Array Value) (j:Nat):a.toList.getD j undef = a.getD j undef:=by simp [List.getD,Array.getD_eq_getD_getElem?]
theorem bh (a:List Value) (j:Nat):a.toArray.getD j undef = a.getD j undef:=by simp [List.getD,Array.getD_eq_getD_getElem?]
theorem zbwf (t:TypeId) (c:Value):(newVar t c).run P w = .ok ⟨w.heap.size,0,none⟩ (w.alloc (.cells c.cells t)):=rfl
theorem zb3g {v c:Value} (h:Rep B w0 σ m w) (hv:bm m v c) (t:TypeId) (h1:∀ j,j < v.cells.size → scalar (v.cells.getD j undef) = true)
 (hK:K (.pointer (some ⟨σ.next,0,none⟩)) (σ.push (.cells t v.cells.toList .rw))) :
 ki P B w0 m K (.ok (.value (.pointer (some ⟨w.heap.size,0,none⟩))) (w.alloc (.cells c.cells t))):=by
 obtain ⟨hs,hc⟩:=zbno hv
 have hp:=h.pushCells t v.cells.toList c.cells.toList [] (by simpa using hs.symm) (fun j hj => by rw [ay,ay]; exact hc j (by simpa using hj))
  (fun j hj => by rw [ay]; exact h1 j (by simpa using hj)) (0,0) (fun o _ => by simp)
 simp only [List.append_nil,Array.toArray_toList] at hp
 refine ⟨_,_,_,m.le_push _,?_,hp,hK⟩
 have:=bm.ptr (m:=m.push ⟨w.heap.size,0,v.cells.toList.length + ([]:List Value).length⟩) σ.next 0 (by simp [Mp.push,h.next])
 simpa [Mp.push,h.next] using this
theorem zb70 {t:TypeId} {n:Nat} (hs:szT P t = some n) (ad:Addr) (c:Value) (hc:c.cells.size = n):(storeVar t ad c).run P w = (storeCells ad c.cells.toList).run P w:=by
 simp [storeVar,nv hs,hc]
theorem zbns {n:Nat} {lo hi:Option Operand} {N:Nat} {fr:Fr} {a:Act} (hf:gg m N fr a) (hlo:zbek N lo = true) (hhi:zbek N hi = true) {l h:Nat} (hb:q9 n (lo.map (evO fr)) (hi.map (evO fr)) = some (l,h)) (isS:Bool) (cap:Nat) (hcap:n ≤ cap) :
 ∃ cm,(Instr.sliceBounds isS n cap (lo.map a.eval) (hi.map a.eval) none).run P w = .ok (l,h,cm) w ∧ cm = cap ∧ l ≤ h ∧ h ≤ n:=by
 unfold q9 at hb
 have bnd:∀ (k:IntKind) (i:Int) (y:Nat) (code:BoundsCode),0 ≤ i → i ≤ y → (Instr.sliceBound (.int k i) y code).run P w = .ok i.toNat w:=fun k i y code h1 h2 => by
  simp [Instr.sliceBound,asIntOf,h1,h2]
 have hl:∀ hh:Nat,hh ≤ n → (match lo.map (evO fr) with | none => some (0,hh) | some (.int _ l) => if 0 ≤ l ∧ l ≤ hh then some (l.toNat,hh) else none | some _ => none) = some (l,h) →
  (match lo.map a.eval with | some v => Instr.sliceBound v hh (if (none:Option Value).isSome then .slice3C else .sliceB) | none => pure 0:Sem Nat).run P w = .ok l w ∧ hh = h ∧ l ≤ h:=by
  intro hh _ e
  cases lo with
  | none => simp at e; obtain ⟨rfl,rfl⟩:=e; exact ⟨rfl,rfl,Nat.zero_le _⟩
  | some x =>
   have hx:=ax hf (show okO N x = true from hlo)
   simp only [Option.map_some] at e ⊢
   generalize hq:evO fr x = q at e hx
   cases q with
   | int k i =>
    have:=tw hx
    rw [this]
    simp only at e ⊢
    split at e
    · rename_i hh2
      simp at e
      obtain ⟨rfl,rfl⟩:=e
      exact ⟨bnd _ _ _ _ hh2.1 hh2.2,rfl,by omega⟩
    · cases e
   | _ => simp at e
 cases hi with
 | none =>
  simp only [Option.map_none] at hb ⊢
  obtain ⟨e1,rfl,e3⟩:=hl n (Nat.le_refl _) hb
  refine ⟨cap,?_,rfl,e3,Nat.le_refl _⟩
  simp only [Instr.sliceBounds,Sem.run_bind,Sem.run_pure,Result.andThen_ok]
  cases lo with
  | none => simp at e1 ⊢; exact e1
  | some x => simp only [Option.map_some] at e1 ⊢; simp only [Sem.run_bind,e1,Result.andThen_ok,Sem.run_pure]
 | some x =>
  have hx:=ax hf (show okO N x = true from hhi)
  simp only [Option.map_some] at hb ⊢
  generalize hq:evO fr x = q at hb hx
  cases q with
  | int k i =>
   have:=tw hx
   rw [this]
   simp only at hb
   split at hb
   · cases hb
   · rename_i hh hhe
     split at hhe
     · rename_i hc
       injection hhe with hhe
       obtain ⟨e1,e2,e3⟩:=hl hh (by omega) hb
       subst e2
       refine ⟨cap,?_,rfl,e3,by omega⟩
       simp only [Instr.sliceBounds,Sem.run_bind,Sem.run_pure,Result.andThen_ok]
       rw [bnd k i cap _ hc.1 (by omega),hhe]
       simp only [Result.andThen_ok]
       cases lo with
       | none => simp at e1 ⊢; exact e1
       | some x => simp only [Option.map_some] at e1 ⊢; simp only [Sem.run_bind,e1,Result.andThen_ok,Sem.run_pure]
     · cases hhe
  | _ => simp at hb
end
end Go.Proofs.Ytgkkienmocpnbaa.Sh
namespace Go.Proofs.Ytgkkienmocpnbaa.Sh
open Go Go.RowKit
section
variable {P:Program} {B:Nat} {w0:World} {σ:ah} {m:Mp} {w:World} {K:Value → ah → Prop}
theorem fw:∀ (vs:List Value) (cs:List Value) (off:Nat),(iw cs off vs).length = cs.length
 | [],cs,off => rfl
 | v :: r,cs,off => by simp [iw,fw r]
theorem o8:∀ (vs:List Value) (cs:List Value) (off j:Nat),(iw cs off vs).getD j undef = if off ≤ j ∧ j < off + vs.length ∧ j < cs.length then vs.getD (j - off) undef else cs.getD j undef
 | [],cs,off,j => by rw [if_neg (by simp only [List.length_nil]; omega)]; rfl
 | v :: r,cs,off,j => by
  rw [iw,o8 r]
  by_cases hj:j = off
  · subst hj
    rw [if_neg (by omega)]
    by_cases hl:j < cs.length
    · rw [if_pos ⟨Nat.le_refl _,by simp,hl⟩]; simp [List.getD,hl]
    · rw [if_neg (by omega)]; rw [List.getD_eq_getElem?_getD,List.getD_eq_getElem?_getD,List.getElem?_eq_none (by simpa using Nat.le_of_not_lt hl),List.getElem?_eq_none (Nat.le_of_not_lt hl)]
  · by_cases h2:off ≤ j ∧ j < off + (v :: r).length ∧ j < cs.length
    · rw [if_pos h2,if_pos (by simp at h2 ⊢; omega)]
      have:j - off = (j - (off + 1)) + 1:=by omega
      rw [this]; simp [List.getD]
    · rw [if_neg h2,if_neg (by simp at h2 ⊢; omega)]
      simp [List.getD,List.getElem?_set,Ne.symm hj]
theorem zbro:∀ (l:List Value) (k off:Nat) (arr:Array Value),
 ((l.zipIdx k).foldl (fun cs (x:Value × Nat) => cs.setIfInBounds (off + x.2) x.1) arr).size = arr.size ∧
 ∀ j,((l.zipIdx k).foldl (fun cs (x:Value × Nat) => cs.setIfInBounds (off + x.2) x.1) arr).getD j undef = if off + k ≤ j ∧ j < off + k + l.length ∧ j < arr.size then l.getD (j - (off + k)) undef else arr.getD j undef
 | [],k,off,arr => ⟨rfl,fun j => by rw [if_neg (by simp only [List.length_nil]; omega)]; rfl⟩
 | v :: r,k,off,arr => by
  obtain ⟨h1,h2⟩:=zbro r (k + 1) off (arr.setIfInBounds (off + k) v)
  simp only [List.zipIdx_cons,List.foldl_cons]
  refine ⟨by simpa using h1,fun j => ?_⟩
  rw [h2]
  by_cases hj:j = off + k
  · subst hj
    rw [if_neg (by omega)]
    by_cases hl:off + k < arr.size
    · rw [if_pos ⟨Nat.le_refl _,by simp,hl⟩]; simp [Array.getD,List.getD,hl]
    · rw [if_neg (by omega)]; simp [Array.getD,hl]
  · have e:(arr.setIfInBounds (off + k) v).getD j undef = arr.getD j undef:=by
     simp only [Array.getD_eq_getD_getElem?]
     rw [Array.getElem?_setIfInBounds_ne (fun e => hj e.symm)]
    rw [e]
    by_cases h3:off + k ≤ j ∧ j < off + k + (v :: r).length ∧ j < arr.size
    · rw [if_pos h3,if_pos (by simp at h3 ⊢; omega)]
      have:j - (off + k) = (j - (off + (k + 1))) + 1:=by omega
      rw [this]; simp [List.getD]
    · rw [if_neg h3,if_neg (by simp at h3 ⊢; omega)]
def zblh (m:Mp) (cs:List Value) (arr:Array Value):Prop:=cs.length = arr.size ∧ ∀ j,j < cs.length → bm m (cs.getD j undef) (arr.getD j undef)
theorem zblt {place:Nat → Option (Nat × Nat)}:∀ (ps:List (Nat × Nat × Value)) (cps:List (Nat × Value)) (cs:List Value) (arr:Array Value) (cs':List Value),dm cs ps = some cs' → zblh m cs arr → cps.length = ps.length →
 (∀ (i:Nat) (p:Nat × Nat × Value) (c:Nat × Value),ps[i]? = some p → cps[i]? = some c → place c.1 = some (p.1,p.2.1) ∧ bm m p.2.2 c.2) → ∃ arr',Instr.fill place arr cps = some arr' ∧ zblh m cs' arr'
 | [],[],cs,arr,cs',h,hr,_,_ => by injection h with h; subst h; exact ⟨arr,rfl,hr⟩
 | [],_ :: _,_,_,_,_,_,hl,_ => by simp at hl
 | _ :: _,[],_,_,_,_,_,hl,_ => by simp at hl
 | (off,size,v) :: ps,(i,c) :: cps,cs,arr,cs',h,hr,hl,hp => by
  simp only [dm] at h
  split at h
  · rename_i hc
    obtain ⟨e1,e2⟩:=hp 0 _ _ rfl rfl
    simp only at e1 e2
    obtain ⟨s1,s2⟩:=zbno e2
    have hr':zblh m (iw cs off v.cells.toList) (c.cells.zipIdx.foldl (fun cs (x:Value × Nat) => cs.setIfInBounds (off + x.2) x.1) arr):=by
     obtain ⟨f1,f2⟩:=zbro c.cells.toList 0 off arr
     have ez:c.cells.zipIdx.foldl (fun cs (x:Value × Nat) => cs.setIfInBounds (off + x.2) x.1) arr = (c.cells.toList.zipIdx 0).foldl (fun cs (x:Value × Nat) => cs.setIfInBounds (off + x.2) x.1) arr:=by
      rw [← Array.foldl_toList,Array.toList_zipIdx]
     rw [ez]
     refine ⟨by rw [fw,f1]; exact hr.1,fun j hj => ?_⟩
     rw [fw] at hj
     rw [o8,f2,Nat.add_zero]
     have hs:v.cells.toList.length = c.cells.toList.length:=by simpa using s1
     by_cases hc2:off ≤ j ∧ j < off + v.cells.toList.length ∧ j < cs.length
     · rw [if_pos hc2,if_pos ⟨hc2.1,by rw [← hs]; exact hc2.2.1,by rw [← hr.1]; exact hc2.2.2⟩,ay,ay]
       refine s2 _ ?_
       have:=hc2.2.1
       simp at this
       omega
     · rw [if_neg hc2,if_neg (by rw [← hs,← hr.1]; exact hc2)]
       exact hr.2 j hj
    obtain ⟨arr',g1,g2⟩:=zblt ps cps _ _ cs' h hr' (by simpa using hl) fun i p c h1 h2 => hp (i + 1) p c (by simpa using h1) (by simpa using h2)
    refine ⟨arr',?_,g2⟩
    simp only [Instr.fill,e1]
    rw [if_neg]
    · exact g1
    · simp only [Bool.or_eq_true,decide_eq_true_eq,ne_eq]
      rw [← s1,← hr.1]
      omega
  · cases h
theorem zbzo {α β:Type} (f:α → Sem β) (g:α → β):∀ (l:List α),(∀ x ∈ l,(f x).run P w = .ok (g x) w) → (l.mapM f).run P w = .ok (l.map g) w
 | [],_ => by simp
 | x :: r,h => by
  simp only [List.mapM_cons,Sem.run_bind,h x (by simp),Result.andThen_ok]
  rw [zbzo f g r fun y hy => h y (by simp [hy])]
  simp
theorem zbme {l:List Value} (h:yb l = true):zblh m l l.toArray:=by
 refine ⟨by simp,fun j hj => ?_⟩
 rw [bh]
 simp only [yb,List.all_eq_true] at h
 have:l.getD j undef = l[j]:=by simp [List.getD,hj]
 rw [this]
 exact zbmf (h _ (List.getElem_mem hj))
theorem yf {t:TypeId} {z:Value} (h:dt P t = some z) (w:World):(zeroValue t).run P w = .ok z w:=by
 unfold dt at h
 cases hi:P.info? t with
 | none => simp [hi] at h
 | some i => simp [hi] at h; simp [zeroValue,run_typeInfo w hi,h]
theorem l8 {t:TypeId} {fs:Array Field} {z:Value} {ps:List (Nat × Nat × Value)} {cps:Array (Nat × Value)} (ht:P.underlying t = some (.struct fs)) (hz:dt P t = some z) (hc:yb z.cells.toList = true) (hall:fs.toList.all (fun f => (szT P f.type).isSome) = true)
 (h:Rep B w0 σ m w) (hl:cps.size = ps.length) (hp:∀ (i:Nat) (p:Nat × Nat × Value) (c:Nat × Value),ps[i]? = some p → cps.toList[i]? = some c → ∃ f:Field,fs[c.1]? = some f ∧ p.1 = f.offset ∧ szT P f.type = some p.2.1 ∧ bm m p.2.2 c.2)
 (hK:mq (dm z.cells.toList ps) fun cs => K (.agg cs.toArray) σ):ki P B w0 m K ((do pure (.value (← Instr.build t cps)):Sem Next).run P w):=by
 cases hfl:dm z.cells.toList ps with
 | none => rw [hfl] at hK; exact hK.elim
 | some cs =>
  rw [hfl] at hK
  have hplaces:(fs.mapM fun f => (do pure (f.offset,← sizeOf f.type):Sem (Nat × Nat))).run P w = .ok (fs.toList.map fun f => (f.offset,(szT P f.type).getD 0)).toArray w:=by
   rw [Array.mapM_eq_mapM_toList]
   simp only [Sem.run_map]
   rw [zbzo _ (fun f => (f.offset,(szT P f.type).getD 0))]
   · rfl
   · intro f hf
     have:=List.all_eq_true.1 hall f hf
     cases hs:szT P f.type with
     | none => rw [hs] at this; cases this
     | some n => simp [nv hs]
  obtain ⟨arr',g1,g2⟩:=zblt (m:=m) (place:=((fs.toList.map fun f => (f.offset,(szT P f.type).getD 0)).toArray[·]?)) ps cps.toList z.cells.toList z.cells cs hfl (by simpa using zbme (m:=m) hc) (by simpa using hl) fun i p c h1 h2 => by
   obtain ⟨f,e1,e2,e3,e4⟩:=hp i p c h1 h2
   refine ⟨?_,e4⟩
   have:fs.toList[c.1]? = some f:=by simpa using e1
   simp [this,e3,e2]
  simp only [Instr.build,Sem.run_bind,yf hz,Result.andThen_ok,run_underlying ht,hplaces]
  rw [g1]
  simp only [Sem.run_pure,Result.andThen_ok]
  exact .val h (.agg _ _ (by simpa using g2.1) fun j hj => by rw [bh]; exact g2.2 j (by simpa using hj)) hK
theorem zce2 {t e:TypeId} {n len:Nat} {z:Value} {ps:List (Nat × Nat × Value)} {cps:Array (Nat × Value)} (ht:P.underlying t = some (.array len e)) (hn:szT P e = some n) (hz:dt P t = some z) (hc:yb z.cells.toList = true)
 (h:Rep B w0 σ m w) (hl:cps.size = ps.length) (hp:∀ (i:Nat) (p:Nat × Nat × Value) (c:Nat × Value),ps[i]? = some p → cps.toList[i]? = some c → p.1 = c.1 * n ∧ p.2.1 = n ∧ bm m p.2.2 c.2)
 (hK:mq (dm z.cells.toList ps) fun cs => K (.agg cs.toArray) σ):ki P B w0 m K ((do pure (.value (← Instr.build t cps)):Sem Next).run P w):=by
 cases hfl:dm z.cells.toList ps with
 | none => rw [hfl] at hK; exact hK.elim
 | some cs =>
  rw [hfl] at hK
  obtain ⟨arr',g1,g2⟩:=zblt (m:=m) (place:=fun i => some (i * n,n)) ps cps.toList z.cells.toList z.cells cs hfl (by simpa using zbme (m:=m) hc) (by simpa using hl) fun i p c h1 h2 => by
   obtain ⟨e1,e2,e3⟩:=hp i p c h1 h2
   exact ⟨by rw [e1,e2],e3⟩
  simp only [Instr.build,Sem.run_bind,yf hz,Result.andThen_ok,run_underlying ht,nv hn]
  rw [g1]
  simp only [Sem.run_pure,Result.andThen_ok]
  exact .val h (.agg _ _ (by simpa using g2.1) fun j hj => by rw [bh]; exact g2.2 j (by simpa using hj)) hK
theorem nw (n:Nat) (z:List Value):(bu n z).length = n * z.length:=by simp [bu]
theorem yl (z:List Value):∀ (n j:Nat),j < n * z.length → (bu n z).getD j undef = z.getD (j % z.length) undef
 | 0,j,h => by simp at h
 | n + 1,j,h => by
  have e:bu (n + 1) z = z ++ bu n z:=by simp [bu,List.replicate_succ]
  rw [e]
  by_cases hj:j < z.length
  · rw [Nat.mod_eq_of_lt hj]
    simp [List.getD,List.getElem?_append_left hj]
  · have hpos:0 < z.length:=by
     rcases Nat.eq_zero_or_pos z.length with h0 | h0
     · rw [h0] at h; simp at h
     · exact h0
    have e2:(z ++ bu n z).getD j undef = (bu n z).getD (j - z.length) undef:=by simp [List.getD,List.getElem?_append_right (Nat.le_of_not_lt hj)]
    rw [e2,yl z n (j - z.length) (by rw [Nat.add_mul] at h; omega)]
    congr 1
    conv => rhs; rw [show j = (j - z.length) + z.length by omega,Nat.add_mod_right]
theorem zbv5 (z:Array Value) (n:Nat) (j:Nat) (hj:j < n) (hz:0 < z.size):((Array.range n).map (z[· % z.size]!)).getD j undef = z.toList.getD (j % z.size) undef:=by
 have h1:j % z.size < z.size:=Nat.mod_lt _ hz
 simp [Array.getD,List.getD,hj,h1]
theorem zce5 {t e:TypeId} {i:TypeInfo} {z:Value} {v1 c1 v2 c2:Value} (ht:P.underlying t = some (.slice e)) (hi:P.info? e = some i) (hz:dt P e = some z) (hc:yb z.cells.toList = true) (hsz:z.cells.size = i.size) (h0:i.size ≠ 0) (hsc:z.cells.toList.all scalar = true)
 (h:Rep B w0 σ m w) (h1:bm m v1 c1) (h2:bm m v2 c2)
 (hK:ao v1 fun _ n => ao v2 fun _ k => (0 ≤ n ∧ n ≤ k ∧ k * i.bytes ≤ 140737488355328 ∧ k ≤ 9223372036854775807) ∧ ∃ md,K (.slice (some ⟨σ.next,0,none⟩) n.toNat z.cells.toList.length) (σ.push (.cells e (bu n.toNat z.cells.toList) md))) :
 ki P B w0 m K ((do pure (.value (← Instr.makeSlice t c1 c2)):Sem Next).run P w):=by
 cases h1 with
 | int k1 n =>
  cases h2 with
  | int k2 k =>
   obtain ⟨⟨g1,g2,g3,g4⟩,md,hK⟩:=hK
   have wl:IntKind.i64.wrap n = n:=by simp [IntKind.wrap,IntKind.signed,IntKind.bits]; omega
   have wk:IntKind.i64.wrap k = k:=by simp [IntKind.wrap,IntKind.signed,IntKind.bits]; omega
   have hb:(i.bytes:Int) * k = k * i.bytes:=Int.mul_comm _ _
   have hcond:((decide (k < 0) || decide ((i.bytes:Int) * k > 2 ^ 48)) || decide (n < 0) || decide (n > k)) = false:=by
    simp only [Bool.or_eq_false_iff,decide_eq_false_iff_not]
    refine ⟨⟨⟨by omega,by rw [hb]; omega⟩,by omega⟩,by omega⟩
   have hs:(sizeOf e).run P w = .ok i.size w:=by rw [run_sizeOf w hi]; simp [Program.cellsOf,hi]
   have hzr:(zeroValue e).run P w = .ok z w:=yf hz w
   have hzpos:0 < z.cells.size:=by omega
   by_cases hk0:k.toNat * i.size = 0
   · have hk:k = 0:=by
      rcases Nat.mul_eq_zero.1 hk0 with h | h
      · omega
      · exact absurd h h0
     have hn:n = 0:=by omega
     subst hk hn
     obtain ⟨arr,harr,harr0⟩:∃ arr:Array Value,arr = Array.map (fun x => (#[]:Array Value)[x % (#[]:Array Value).size]!) (Array.range 0) ∧ arr.size = 0:=⟨_,rfl,by simp⟩
     have hp:=h.pushArr e (bu (0:Int).toNat z.cells.toList) arr (by simp [bu]) (fun j hj => by simp [bu] at hj) (fun j hj => by simp [bu] at hj) (0,0) (fun o ho => by simp [harr0] at ho) (w':=w.alloc (.cells arr e)) ⟨rfl,rfl,rfl,by simp,fun k hk => Below.heap_alloc _ _ _ hk⟩ (heap_alloc_new w _) md
     rw [harr0] at hp
     simp only [Instr.makeSlice,Sem.run_bind,run_underlying ht,Result.andThen_ok,asInt,asIntOf,Sem.run_pure,run_typeInfo w hi,wl,wk,hcond,Bool.false_eq_true,if_false,run_askRoom,hs,Int.toNat_zero,Nat.zero_mul,if_true,newRow,run_newObj]
     rw [← harr]
     refine ⟨_,_,_,m.le_push _,?_,hp,hK⟩
     have:=bm.slice (m:=m.push ⟨w.heap.size,0,0⟩) σ.next 0 0 z.cells.toList.length 0 (by simp [Mp.push,h.next]) (Nat.le_refl _) (by simp [Mp.push,h.next])
     simpa [Mp.push,h.next] using this
   · have hp:=h.pushArr e (bu n.toNat z.cells.toList) ((Array.range (k.toNat * i.size)).map (z.cells[· % z.cells.size]!)) (by
      rw [nw]; simp; rw [hsz]; exact Nat.mul_le_mul_right _ (by omega)) (fun j hj => by
      rw [nw] at hj
      have hj2:j < k.toNat * i.size:=by
       have:n.toNat * z.cells.toList.length ≤ k.toNat * i.size:=by simp; rw [hsz]; exact Nat.mul_le_mul_right _ (by omega)
       omega
      rw [yl _ _ _ hj,zbv5 _ _ _ hj2 hzpos]
      have hmod:j % z.cells.toList.length < z.cells.toList.length:=Nat.mod_lt _ (by simpa using hzpos)
      have:=(zbme (m:=m) hc).2 _ hmod
      rw [bh] at this
      have e:z.cells.toList.length = z.cells.size:=by simp
      rw [← e]
      exact this) (fun j hj => by
      rw [nw] at hj
      rw [yl _ _ _ hj]
      have hmod:j % z.cells.toList.length < z.cells.toList.length:=Nat.mod_lt _ (by simpa using hzpos)
      have e1:z.cells.toList.getD (j % z.cells.toList.length) undef = z.cells.toList[j % z.cells.toList.length]:=by rw [List.getD_eq_getElem?_getD,List.getElem?_eq_getElem hmod,Option.getD_some]
      rw [e1]
      exact List.all_eq_true.1 hsc _ (List.getElem_mem hmod)) (0,0) (fun o ho => by simp) (w':=w.alloc (.cells ((Array.range (k.toNat * i.size)).map (z.cells[· % z.cells.size]!)) e)) ⟨rfl,rfl,rfl,by simp,fun k hk => Below.heap_alloc _ _ _ hk⟩ (heap_alloc_new w _) md
     simp only [Instr.makeSlice,Sem.run_bind,run_underlying ht,Result.andThen_ok,asInt,asIntOf,Sem.run_pure,run_typeInfo w hi,wl,wk,hcond,Bool.false_eq_true,if_false,run_askRoom,hs,if_neg hk0,hzr,newRow,run_newObj]
     refine ⟨_,_,_,m.le_push _,?_,hp,hK⟩
     have:=bm.slice (m:=m.push ⟨w.heap.size,0,((Array.range (k.toNat * i.size)).map (z.cells[· % z.cells.size]!)).size⟩) σ.next 0 n.toNat z.cells.toList.length k.toNat (by simp [Mp.push,h.next]) (by omega) (by simp [Mp.push,h.next,hsz])
     simpa [Mp.push,h.next] using this
  | _ => exact hK.elim
 | _ => exact hK.elim
theorem zb7p {t e:TypeId} {n len:Nat} {z:Value} {ps:List (Nat × Nat × Value)} {cps:Array (Nat × Value)} (ht:P.underlying t = some (.slice e)) (hn:szT P e = some n) (hz:dt P e = some z) (hc:yb z.cells.toList = true) (hsz:z.cells.size = n) (hlim:len * n ≤ 16777216) (hn0:n ≠ 0)
 (h:Rep B w0 σ m w) (hl:cps.size = ps.length) (hp:∀ (i:Nat) (p:Nat × Nat × Value) (c:Nat × Value),ps[i]? = some p → cps.toList[i]? = some c → p.1 = c.1 * n ∧ p.2.1 = n ∧ bm m p.2.2 c.2)
 (hK:mq (dm (bu len z.cells.toList) ps) fun cs => cs.all scalar = true ∧ ∃ md,K (.slice (some ⟨σ.next,0,none⟩) len n) (σ.push (.cells e cs md))) :
 ki P B w0 m K ((do pure (.value (← Instr.buildSlice t len cps)):Sem Next).run P w):=by
 cases hfl:dm (bu len z.cells.toList) ps with
 | none => rw [hfl] at hK; exact hK.elim
 | some cs =>
  rw [hfl] at hK
  obtain ⟨hsc,md,hK⟩:=hK
  have fin:∀ (zero:Array Value) (zr:Array Value),zr = (Array.range (len * n)).map (zero[· % zero.size]!) → zblh m (bu len z.cells.toList) zr →
   ((len * n = 0 ∧ zero = #[]) ∨ (len * n ≠ 0 ∧ zero = z.cells)) →
   ki P B w0 m K ((do pure (.value (← Instr.buildSlice t len cps)):Sem Next).run P w):=by
   intro zero zr hzr hrel hrun
   obtain ⟨arr',g1,g2⟩:=zblt (m:=m) (place:=fun i => some (i * n,n)) ps cps.toList _ zr cs hfl hrel (by simpa using hl) fun i p c h1 h2 => by
    obtain ⟨e1,e2,e3⟩:=hp i p c h1 h2
    exact ⟨by rw [e1,e2],e3⟩
   have hsize:arr'.size = len * n:=by
    have e1:cs.length = (bu len z.cells.toList).length:=by
     have:∀ (ps:List (Nat × Nat × Value)) (a b:List Value),dm a ps = some b → b.length = a.length:=by
      intro ps
      induction ps with
      | nil => intro a b h; injection h with h; rw [h]
      | cons p r ih =>
       intro a b h
       obtain ⟨o,sz,v⟩:=p
       simp only [dm] at h
       split at h
       · rw [ih _ _ h,fw]
       · cases h
     exact this _ _ _ hfl
    rw [← g2.1,e1,nw]
    simp [hsz]
   have hp:=h.pushArr e cs arr' (by rw [g2.1]; exact Nat.le_refl _) g2.2 (fun j hj => by
    have e1:cs.getD j undef = cs[j]:=by rw [List.getD_eq_getElem?_getD,List.getElem?_eq_getElem hj,Option.getD_some]
    rw [e1]; exact List.all_eq_true.1 hsc _ (List.getElem_mem hj)) (0,0) (fun o ho => by simp) (w':=w.alloc (.cells arr' e)) ⟨rfl,rfl,rfl,by simp,fun k hk => Below.heap_alloc _ _ _ hk⟩ (heap_alloc_new w _) md
   have hlim':¬ (len * n > 2 ^ 24):=by omega
   have fin2:ki P B w0 m K (.ok (.value (.slice (some ⟨w.heap.size,0,none⟩) len len)) (w.alloc (.cells arr' e))):=by
    refine ⟨_,_,_,m.le_push _,?_,hp,hK⟩
    have:=bm.slice (m:=m.push ⟨w.heap.size,0,arr'.size⟩) σ.next 0 len n len (by simp [Mp.push,h.next]) (Nat.le_refl _) (by simp [Mp.push,h.next,hsize])
    simpa [Mp.push,h.next] using this
   rcases hrun with ⟨h0,rfl⟩ | ⟨h0,rfl⟩
   · simp only [Instr.buildSlice,Sem.run_bind,run_underlying ht,Result.andThen_ok,nv hn,if_neg hlim',if_pos h0,Sem.run_pure]
     rw [← hzr,g1]
     simp only [newRow,Sem.run_bind,run_newObj,Result.andThen_ok,Sem.run_pure]
     exact fin2
   · simp only [Instr.buildSlice,Sem.run_bind,run_underlying ht,Result.andThen_ok,nv hn,if_neg hlim',if_neg h0,Sem.run_pure,yf hz]
     rw [← hzr,g1]
     simp only [newRow,Sem.run_bind,run_newObj,Result.andThen_ok,Sem.run_pure]
     exact fin2
  have hzpos:0 < z.cells.size:=by omega
  by_cases h0:len * n = 0
  · refine fin #[] _ rfl ?_ (.inl ⟨h0,rfl⟩)
    have hl0:len = 0:=by
     rcases Nat.mul_eq_zero.1 h0 with h | h
     · exact h
     · exact absurd h hn0
    subst hl0
    exact ⟨by simp [bu],fun j hj => by simp [bu] at hj⟩
  · refine fin z.cells _ rfl ⟨by rw [nw]; simp [hsz],fun j hj => ?_⟩ (.inr ⟨h0,rfl⟩)
    rw [nw] at hj
    rw [yl _ _ _ hj,zbv5 _ _ _ (by simpa [hsz] using hj) hzpos]
    have hmod:j % z.cells.toList.length < z.cells.toList.length:=Nat.mod_lt _ (by simpa using hzpos)
    have:=(zbme (m:=m) hc).2 _ hmod
    rw [bh] at this
    have e:z.cells.toList.length = z.cells.size:=by simp
    rw [← e]
    exact this
theorem jc {t:TypeId} {i:Nat} {cs:List Value} (h:Rep B w0 σ m w) (hr:σ.rwRow t i = some cs):i < σ.next ∧ σ.blk i = .cells t cs .rw ∧ ∃ cur fz,w.heap[(m.l i).b]? = some (.cells cur t fz) ∧ cur.size = (m.l i).room ∧ (m.l i).base = 0 ∧ B ≤ (m.l i).b ∧
 (∀ o,o < cur.size → ¬ (fz.1 ≤ o ∧ o < fz.2)) ∧ (∀ j,j < cs.length → j < cur.size ∧ bm m (cs.getD j undef) (cur.getD j undef) ∧ scalar (cs.getD j undef) = true):=by
 unfold ah.rwRow at hr
 have hi:i < σ.next:=by
  refine ah.lt_of_at ?_
  cases hq:σ.at i <;> rw [hq] at hr <;> first | rfl | cases hr
 rw [ah.at_lt hi] at hr
 have hb:=h.blk i hi
 cases hq:σ.blk i with
 | dead => rw [hq] at hr; cases hr
 | map es => rw [hq] at hr; cases hr
 | cells t' cs' rw_ =>
  cases rw_ with
  | ro => rw [hq] at hr; cases hr
  | app => rw [hq] at hr; cases hr
  | rw =>
   rw [hq] at hr hb
   simp only at hr
   split at hr
   · rename_i ht
     injection hr with hr
     subst hr ht
     obtain ⟨c,t'',fz,h1,h2,h3⟩:=hb
     obtain ⟨h4,h5,h6,h7,h8⟩:=h3 (by simp)
     subst h5
     rw [h6] at h2
     exact ⟨hi,rfl,c,fz,h1,h7,h6,h4,h8,fun j hj => by have:=h2 j hj; rwa [Nat.zero_add] at this⟩
   · cases hr
theorem zbmb {t:TypeId} {i:Nat} {cs:List Value} (h:Rep B w0 σ m w) (hr:σ.apRow t i = some cs):i < σ.next ∧ σ.blk i = .cells t cs .app ∧ ∃ cur fz,w.heap[(m.l i).b]? = some (.cells cur t fz) ∧ cur.size = (m.l i).room ∧ (m.l i).base = 0 ∧ B ≤ (m.l i).b ∧
 (∀ o,o < cur.size → ¬ (fz.1 ≤ o ∧ o < fz.2)) ∧ (∀ j,j < cs.length → j < cur.size ∧ bm m (cs.getD j undef) (cur.getD j undef) ∧ scalar (cs.getD j undef) = true):=by
 unfold ah.apRow at hr
 have hi:i < σ.next:=by
  refine ah.lt_of_at ?_
  cases hq:σ.at i <;> rw [hq] at hr <;> first | rfl | cases hr
 rw [ah.at_lt hi] at hr
 have hb:=h.blk i hi
 cases hq:σ.blk i with
 | dead => rw [hq] at hr; cases hr
 | map es => rw [hq] at hr; cases hr
 | cells t' cs' rw_ =>
  cases rw_ with
  | ro => rw [hq] at hr; cases hr
  | rw => rw [hq] at hr; cases hr
  | app =>
   rw [hq] at hr hb
   simp only at hr
   split at hr
   · rename_i ht
     injection hr with hr
     subst hr ht
     obtain ⟨c,t'',fz,h1,h2,h3⟩:=hb
     obtain ⟨h4,h5,h6,h7,h8⟩:=h3 (by simp)
     subst h5
     rw [h6] at h2
     exact ⟨hi,rfl,c,fz,h1,h7,h6,h4,h8,fun j hj => by have:=h2 j hj; rwa [Nat.zero_add] at this⟩
   · cases hr
theorem Rep.toRo {t:TypeId} {i:Nat} {cs:List Value} (h:Rep B w0 σ m w) (hr:σ.apRow t i = some cs):Rep B w0 (σ.set i (.cells t cs .ro)) m w:=by
 obtain ⟨hi,hq,_⟩:=zbmb h hr
 refine ⟨h.next,h.below,h.base,fun j hj => ?_,fun a b ha hb hab hr hl => ?_⟩
 · by_cases e:j = i
   · subst e
     have q:=h.blk j hj
     rw [hq] at q
     obtain ⟨c,t',fz,h1,h2,h3⟩:=q
     simp only [ah.set,if_true]
     exact ⟨c,t',fz,h1,h2,fun e => (e rfl).elim⟩
   · simp only [ah.set,if_neg e]; exact h.blk j hj
 · have ea:a ≠ i:=by rintro rfl; simp [ah.set,Blk.own] at hr
   simp only [ah.set,if_neg ea] at hr ⊢
   have hl':(σ.blk b).live = true:=by
    by_cases eb:b = i
    · rw [eb,hq]; rfl
    · simpa [ah.set,eb] using hl
   have q:=h.apart a b ha hb hab hr hl'
   by_cases eb:b = i
   · refine q.imp id fun hs => ?_
     obtain ⟨_,_,_,_,_,e2,_⟩:=n8 hs
     rw [eb,hq] at e2; cases e2
   · simpa [eb] using q
theorem xt {t u ty e:TypeId} {i:TypeInfo} {z:Value} (ht:P.underlying t = some (.slice e)) (hu:∃ d,P.underlying u = some d ∧ ∀ k,d ≠ .int k) (hi:P.info? e = some i) (hz:dt P e = some z)
 {x:Value} {n:Nat} {news:List Value} (hlen:∀ w,(Builtin.lenOf x).run P w = .ok n w) (hx:∀ w',w'.heap = w.heap → (Builtin.firstCells i.size n x).run P w' = .ok news.toArray w')
 (b:Option Addr) (sLen sCap:Nat) :
 (sLen + n ≤ sCap → (Builtin.append_ #[t,u] ty #[.slice b sLen sCap,x]).run P w = ((match b with | some a => storeCells (a.add (sLen * i.size)) news | none => pure ():Sem Unit).run P w).andThen fun _ w' => .ok (.slice b (sLen + n) sCap) w') ∧
 (∀ olds:List Value,(∀ w',w'.heap = w.heap → (Builtin.firstCells i.size sLen (.slice b sLen sCap)).run P w' = .ok olds.toArray w') → sCap < sLen + n → ((sLen + n:Nat):Int) ≤ 9223372036854775807 → Builtin.nextslicecap (sLen + n) sCap * i.bytes ≤ 281474976710656 →
  (Builtin.append_ #[t,u] ty #[.slice b sLen sCap,x]).run P w = .ok (.slice (some ⟨w.heap.size,0,none⟩) (sLen + n) (grownCap w (sLen + n) sCap e))
   (w.drew.alloc (.cells (olds.toArray ++ news.toArray ++ Builtin.zeroCells z.cells (grownCap w (sLen + n) sCap e - (sLen + n))) e))):=by
 obtain ⟨d,hd,hnd⟩:=hu
 have hzero:((match d with | .int _ => true | _ => false):Bool) = false:=by cases d <;> first | rfl | exact absurd rfl (hnd _)
 have hz':(sizeOf e).run P w = .ok i.size w:=by rw [run_sizeOf w hi]; simp [Program.cellsOf,hi]
 refine ⟨fun hroom => ?_,fun olds holds hg h63 hfit => ?_⟩
 · simp only [Builtin.append_,List.getElem?_toArray,List.getElem?_cons_zero,List.getElem?_cons_succ,Sem.run_bind,run_underlying ht,Result.andThen_ok,hz',run_underlying hd,Sem.run_pure,hzero,Bool.false_eq_true,if_false,hlen,if_pos hroom,Bool.not_false,if_true,hx w rfl]
   cases b <;> simp
 · have hn:¬ (sLen + n ≤ sCap):=by omega
   have h63':¬ (((sLen + n:Nat):Int) > IntKind.i64.max ∧ (False ∨ i.bytes = 0)):=by
    intro h
    have:IntKind.i64.max = 9223372036854775807:=rfl
    omega
   have h48':¬ (Builtin.nextslicecap (sLen + n) sCap * i.bytes > 2 ^ 48):=by omega
   have hti:∀ w,(typeInfo e).run P w = .ok i w:=fun w => run_typeInfo w hi
   have hzz:∀ w,(zeroValue e).run P w = .ok z w:=fun w => yf hz w
   have hdr:w.drew.heap = w.heap:=rfl
   simp only [Builtin.append_,List.getElem?_toArray,List.getElem?_cons_zero,List.getElem?_cons_succ,Sem.run_bind,run_underlying ht,Result.andThen_ok,hz',run_underlying hd,Sem.run_pure,hzero,Bool.false_eq_true,if_false,hlen,if_neg hn,hti,if_neg h48',run_choose,Question.forced]
   rw [if_neg h63']
   simp only [Sem.run_bind,hti,Result.andThen_ok,if_neg h48',run_choose,Question.forced,Bool.false_eq_true,if_false,run_askRoom,Bool.not_false,if_true]
   rw [holds { heap:=w.heap,tape:=w.tape,drawn:=w.drawn + 1,os:=w.os,output:=w.output } rfl]
   simp only [Result.andThen_ok]
   rw [hx { heap:=w.heap,tape:=w.tape,drawn:=w.drawn + 1,os:=w.os,output:=w.output } rfl]
   simp only [Result.andThen_ok,hzz,newRow,Sem.run_bind,run_newObj,Sem.run_pure]
   rfl
theorem zb8u {m:Mp} {xs ys as bs:List Value} (h1:as.length = xs.length) (hx:∀ i,i < xs.length → bm m (xs.getD i undef) (as.getD i undef)) (h2:bs.length = ys.length) (hy:∀ i,i < ys.length → bm m (ys.getD i undef) (bs.getD i undef)) :
 (as ++ bs).length = (xs ++ ys).length ∧ ∀ i,i < (xs ++ ys).length → bm m ((xs ++ ys).getD i undef) ((as ++ bs).getD i undef):=by
 refine ⟨by simp [h1,h2],fun i hi => ?_⟩
 by_cases hlt:i < xs.length
 · have e1:(xs ++ ys).getD i undef = xs.getD i undef:=by simp [List.getD,List.getElem?_append_left hlt]
   have e2:(as ++ bs).getD i undef = as.getD i undef:=by simp [List.getD,List.getElem?_append_left (show i < as.length by omega)]
   rw [e1,e2]; exact hx i hlt
 · have hlt':i - xs.length < ys.length:=by simp at hi; omega
   have e1:(xs ++ ys).getD i undef = ys.getD (i - xs.length) undef:=by simp [List.getD,List.getElem?_append_right (show xs.length ≤ i by omega)]
   have e2:(as ++ bs).getD i undef = bs.getD (i - xs.length) undef:=by simp [List.getD,List.getElem?_append_right (show as.length ≤ i by omega),h1]
   rw [e1,e2]; exact hy _ hlt'
theorem zbpf {xs ys:List Value} (hx:∀ i,i < xs.length → scalar (xs.getD i undef) = true) (hy:∀ i,i < ys.length → scalar (ys.getD i undef) = true):∀ i,i < (xs ++ ys).length → scalar ((xs ++ ys).getD i undef) = true:=by
 intro i hi
 by_cases hlt:i < xs.length
 · have e1:(xs ++ ys).getD i undef = xs.getD i undef:=by simp [List.getD,List.getElem?_append_left hlt]
   rw [e1]; exact hx i hlt
 · have e1:(xs ++ ys).getD i undef = ys.getD (i - xs.length) undef:=by simp [List.getD,List.getElem?_append_right (show xs.length ≤ i by omega)]
   rw [e1]; exact hy _ (by simp at hi; omega)
theorem zbl7 (l:List Value) (n j:Nat) (h:j < n):(l.take n).getD j undef = l.getD j undef:=by simp [List.getD,List.getElem?_take,h]
theorem zb9v (w:World) (o:Obj):Below w.heap.size w (w.drew.alloc o):=⟨rfl,rfl,rfl,by simp,fun k hk => Below.heap_alloc w.drew o k hk⟩
theorem zbrq {t u ty e:TypeId} {i:TypeInfo} {z:Value} (ht:P.underlying t = some (.slice e)) (hu:∃ d,P.underlying u = some d ∧ ∀ k,d ≠ .int k) (hi:P.info? e = some i) (hz:dt P e = some z) (hzs:z.cells.size = i.size) (hi0:i.size ≠ 0)
 {x:Value} {n:Nat} {news cnews:List Value} (hn0:n ≠ 0) (hnl:news.length = n * i.size) (hcl:cnews.length = news.length) (hrel:∀ j,j < news.length → bm m (news.getD j undef) (cnews.getD j undef)) (hnsc:∀ j,j < news.length → scalar (news.getD j undef) = true)
 (hlen:∀ w,(Builtin.lenOf x).run P w = .ok n w) (hx:∀ w',w'.heap = w.heap → (Builtin.firstCells i.size n x).run P w' = .ok cnews.toArray w')
 (h:Rep B w0 σ m w) {v c:Value} (hv:bm m v c) (hK:zbah σ e i.size i.bytes v n news K):ki P B w0 m K ((do pure (.value (← Builtin.append_ #[t,u] ty #[c,x])):Sem Next).run P w):=by
 have hfit:∀ sLen sCap,sCap < sLen + n → (sLen + n) * i.bytes ≤ 140737488355328 → Builtin.nextslicecap (sLen + n) sCap * i.bytes ≤ 281474976710656:=fun sLen sCap h1 h2 => growslice_fits h1 h2
 have hml:maxLen = 140737488355328 ∨ maxLen ≤ 9223372036854775807:=.inr (by unfold maxLen; omega)
 have hml':maxLen ≤ 9223372036854775807:=by unfold maxLen; omega
 -- a new row
 have grow:∀ (md:Md) (b:Option Addr) (sLen sCap:Nat) (olds colds:List Value) (σ1:ah),Rep B w0 σ1 m w → σ1.next = σ.next → sCap < sLen + n → (sLen + n) * i.bytes ≤ 140737488355328 → sLen + n ≤ maxLen → olds.length = sLen * i.size → colds.length = olds.length →
  (∀ j,j < olds.length → bm m (olds.getD j undef) (colds.getD j undef)) → (∀ j,j < olds.length → scalar (olds.getD j undef) = true) →
  (∀ w',w'.heap = w.heap → (Builtin.firstCells i.size sLen (.slice b sLen sCap)).run P w' = .ok colds.toArray w') →
  K (.slice (some ⟨σ.next,0,none⟩) (sLen + n) i.size) (σ1.push (.cells e (olds ++ news) md)) →
  ki P B w0 m K ((do pure (.value (← Builtin.append_ #[t,u] ty #[.slice b sLen sCap,x])):Sem Next).run P w):=by
  intro md b sLen sCap olds colds σ1 hr1 hnx hg hb hmx hol hcol hor hos hofc hK
  obtain ⟨_,r2⟩:=xt (P:=P) (w:=w) (ty:=ty) ht hu hi hz hlen hx b sLen sCap
  have r:=r2 colds hofc hg (by omega) (hfit _ _ hg hb)
  obtain ⟨a1,a2⟩:=zb8u hcol hor hcl hrel
  have hge:=grownCap_ge w (sLen + n) sCap e
  have hp:=hr1.pushArr e (olds ++ news) (colds.toArray ++ cnews.toArray ++ Builtin.zeroCells z.cells (grownCap w (sLen + n) sCap e - (sLen + n))) (by simp; omega) (fun j hj => by
   have e1:(colds.toArray ++ cnews.toArray ++ Builtin.zeroCells z.cells (grownCap w (sLen + n) sCap e - (sLen + n))).getD j undef = (colds ++ cnews).getD j undef:=by
    have hlt:j < (colds ++ cnews).length:=by omega
    have hlt2:j < (colds.toArray ++ cnews.toArray).size:=by simpa using hlt
    rw [Array.getD_eq_getD_getElem?,Array.getElem?_append_left hlt2,List.getD_eq_getElem?_getD]
    simp
   rw [e1]; exact a2 j hj) (zbpf hos hnsc) (0,0) (fun o _ => by simp) (w':=w.drew.alloc (.cells (colds.toArray ++ cnews.toArray ++ Builtin.zeroCells z.cells (grownCap w (sLen + n) sCap e - (sLen + n))) e)) (zb9v w _) (heap_alloc_new w.drew _) md
  simp only [Sem.run_bind,r,Result.andThen_ok,Sem.run_pure]
  refine ⟨_,_,_,m.le_push _,?_,hp,hK⟩
  have hsz:(colds.toArray ++ cnews.toArray ++ Builtin.zeroCells z.cells (grownCap w (sLen + n) sCap e - (sLen + n))).size = grownCap w (sLen + n) sCap e * i.size:=by
   simp only [Array.size_append,List.size_toArray,size_zeroCells,hzs,hcol,hol,hcl,hnl,← Nat.add_mul]
   congr 1; omega
  have:=bm.slice (m:=m.push ⟨w.heap.size,0,(colds.toArray ++ cnews.toArray ++ Builtin.zeroCells z.cells (grownCap w (sLen + n) sCap e - (sLen + n))).size⟩) σ.next 0 (sLen + n) i.size (grownCap w (sLen + n) sCap e) (by simp [Mp.push,h.next]) hge (by simp only [Mp.push,h.next,if_true]; rw [hsz,Nat.zero_add])
  simpa [Mp.push,h.next] using this
 unfold zbah at hK
 have gk:∀ {α:Type} {o:Option α} {K:α → Prop},mq o K → ∃ x,o = some x ∧ K x:=fun h => by unfold mq at h; split at h <;> first | exact ⟨_,rfl,h⟩ | exact h.elim
 cases hv with
 | nilS =>
  obtain ⟨⟨b1,b2⟩,hK⟩:=hK
  rcases hK with hK | hK
  · exact grow .rw none 0 0 [] [] σ h rfl (by omega) (by simpa using b1) (by simpa using b2) (by simp) rfl (fun j hj => by simp at hj) (fun j hj => by simp at hj) (fun w' _ => rfl) (by simpa using hK)
  · exact grow .app none 0 0 [] [] σ h rfl (by omega) (by simpa using b1) (by simpa using b2) (by simp) rfl (fun j hj => by simp at hj) (fun j hj => by simp at hj) (fun w' _ => rfl) (by simpa using hK)
 | sliceE j o s ae =>
  simp only [eu] at hK
  obtain ⟨_,rfl,⟨b1,b2⟩,hK⟩:=hK
  have fc:∀ w':World,w'.heap = w.heap → (Builtin.firstCells i.size 0 (.slice (some ae) 0 0)).run P w' = .ok (([]:List Value)).toArray w':=fun w' _ => by simp [Builtin.firstCells,loadCells,loadCellsFrom]
  rcases hK with hK | hK
  · obtain ⟨cs,hcs,b0,hK⟩:=gk hK
    exact grow .rw (some ae) 0 0 [] [] (σ.set j .dead) (h.kill j) rfl (by omega) b1 b2 (by simp) rfl (fun j hj => by simp at hj) (fun j hj => by simp at hj) fc (by simpa using hK)
  · obtain ⟨cs,hcs,b0,hK⟩:=gk hK
    obtain rfl:cs = []:=List.eq_nil_of_length_eq_zero (by simpa using b0.symm)
    exact grow .app (some ae) 0 0 [] [] (σ.set j (.cells e [] .ro)) (h.toRo hcs) rfl (by omega) b1 b2 (by simp) rfl (fun j hj => by simp at hj) (fun j hj => by simp at hj) fc (by simpa using hK)
 | slice j o sLen s k hj hk hr =>
  simp only [eu] at hK
  obtain ⟨ho,rfl,⟨b1,b2⟩,hK⟩:=hK
  have ho:o = 0:=ho
  subst ho
  have hcsc:∀ v ∈ cnews,scalar v = true:=fun v hv => by
   obtain ⟨q,hq,rfl⟩:=List.mem_iff_getElem.1 hv
   have:=hrel q (by omega)
   have e1:cnews.getD q undef = cnews[q]:=by rw [List.getD_eq_getElem?_getD,List.getElem?_eq_getElem hq,Option.getD_some]
   rw [e1] at this
   rw [this.scalar]; exact hnsc q (by omega)
  rw [Nat.zero_add] at hr
  rcases hK with hK | hK
  · obtain ⟨cs,hcs,b0,hK⟩:=gk hK
    obtain ⟨hjn,hblk,cur,fz,g1,g2,g3,g4,g5,g6⟩:=jc h hcs
    rw [g3,Nat.add_zero]
    have htl:(cs.take (sLen * i.size)).length = sLen * i.size:=by simp; omega
    by_cases hroom:sLen + n ≤ k
    · obtain ⟨r1,_⟩:=xt (P:=P) (w:=w) (ty:=ty) ht hu hi hz hlen hx (some ⟨(m.l j).b,0,none⟩) sLen k
      have r:=r1 hroom
      have hfits:sLen * i.size + 0 + cnews.length ≤ cur.size:=by
       rw [hcl,hnl,g2,← hr,Nat.add_zero,← Nat.add_mul]; exact Nat.mul_le_mul_right _ hroom
      obtain ⟨w',cur',s1,s2,s3,s4,s5,s6,s7,s8,s9⟩:=o9 P (m.l j).b (sLen * i.size) e fz cnews 0 w cur g1 hfits g5 hcsc
      have hp:=h.reuse hjn hblk (cs.take (sLen * i.size) ++ news) s2 (by rw [s3]; exact g2) (fun o ho => g5 o (by rw [← s3]; exact ho)) g4 s5 s6 s7 s8 s9 (by
       rw [s3]; simp only [List.length_append,htl]; omega) (fun q hq => by
       rw [s4]
       by_cases hlt:q < sLen * i.size
       · rw [if_neg (by omega)]
         have e1:(cs.take (sLen * i.size) ++ news).getD q undef = cs.getD q undef:=by
          rw [List.getD_eq_getElem?_getD,List.getElem?_append_left (by omega),← List.getD_eq_getElem?_getD,zbl7 _ _ _ hlt]
         rw [e1]; exact (g6 q (by omega)).2.1
       · have hql:q - sLen * i.size < news.length:=by simp only [List.length_append,htl] at hq; omega
         rw [if_pos (by omega)]
         have e1:(cs.take (sLen * i.size) ++ news).getD q undef = news.getD (q - sLen * i.size) undef:=by
          rw [List.getD_eq_getElem?_getD,List.getElem?_append_right (by omega),htl,← List.getD_eq_getElem?_getD]
         rw [e1,Nat.add_zero]; exact hrel _ hql) (zbpf (fun q hq => by
          rw [htl] at hq
          rw [zbl7 _ _ _ hq]; exact (g6 q (by omega)).2.2) hnsc)
      simp only [Sem.run_bind,r,iz,Nat.zero_add,s1,Result.andThen_ok,Sem.run_pure]
      refine ⟨_,_,_,m.le_push _,?_,hp,hK⟩
      have:=bm.slice (m:=m.push ⟨(m.l j).b,0,(m.l j).room⟩) σ.next 0 (sLen + n) i.size k (by simp [Mp.push,h.next]) hroom (by simp [Mp.push,h.next,hr])
      simpa [Mp.push,h.next] using this
    · have hcells:∀ q,q < sLen * i.size → w.cell? ⟨(m.l j).b,q,none⟩ = some (cur.getD q undef):=fun q hq => by
       have:=(g6 q (by omega)).1
       simp [World.cell?,g1,Array.getD,this]
      refine grow .rw (some ⟨(m.l j).b,0,none⟩) sLen k (cs.take (sLen * i.size)) ((List.range (sLen * i.size)).map fun q => cur.getD q undef) (σ.set j .dead) (h.kill j) rfl (by omega) b1 b2 htl (by rw [htl]; simp) (fun q hq => ?_) (fun q hq => ?_) (fun w' hw' => ?_) hK
      · rw [htl] at hq
        rw [zbl7 _ _ _ hq]
        have e1:((List.range (sLen * i.size)).map fun q => cur.getD q undef).getD q undef = cur.getD q undef:=by simp [List.getD,hq]
        rw [e1]; exact (g6 q (by omega)).2.1
      · rw [htl] at hq
        rw [zbl7 _ _ _ hq]; exact (g6 q (by omega)).2.2
      · have:=run_loadCells w' (P:=P) ⟨(m.l j).b,0,none⟩ (sLen * i.size) (fun q => cur.getD q undef) (fun q hq => by
         rw [iz,Nat.zero_add]
         have:=hcells q hq
         unfold World.cell? at this ⊢
         rw [hw']; exact this)
        simpa [Builtin.firstCells] using this
  · obtain ⟨cs,hcs,b0,hK⟩:=gk hK
    obtain ⟨hjn,hblk,cur,fz,g1,g2,g3,g4,g5,g6⟩:=zbmb h hcs
    rw [g3,Nat.add_zero]
    by_cases hroom:sLen + n ≤ k
    · obtain ⟨r1,_⟩:=xt (P:=P) (w:=w) (ty:=ty) ht hu hi hz hlen hx (some ⟨(m.l j).b,0,none⟩) sLen k
      have r:=r1 hroom
      have hfits:sLen * i.size + 0 + cnews.length ≤ cur.size:=by
       rw [hcl,hnl,g2,← hr,Nat.add_zero,← Nat.add_mul]; exact Nat.mul_le_mul_right _ hroom
      obtain ⟨w',cur',s1,s2,s3,s4,s5,s6,s7,s8,s9⟩:=o9 P (m.l j).b (sLen * i.size) e fz cnews 0 w cur g1 hfits g5 hcsc
      have hp:=h.reuseA hjn hblk (cs ++ news) g1 s2 (fun q hq => by rw [s4,if_neg (by omega)]) s3 g3 (by rw [s3]; exact g2) (fun o ho => g5 o (by rw [← s3]; exact ho)) g4 s5 s6 s7 s8 s9 (by simp) (by
       rw [s3]; simp only [List.length_append]; omega) (fun q hq => by
       rw [s4]
       by_cases hlt:q < sLen * i.size
       · rw [if_neg (by omega)]
         have e1:(cs ++ news).getD q undef = cs.getD q undef:=by
          rw [List.getD_eq_getElem?_getD,List.getElem?_append_left (by omega),← List.getD_eq_getElem?_getD]
         rw [e1]; exact (g6 q (by omega)).2.1
       · have hql:q - sLen * i.size < news.length:=by simp only [List.length_append] at hq; omega
         rw [if_pos (by omega)]
         have e1:(cs ++ news).getD q undef = news.getD (q - sLen * i.size) undef:=by
          rw [List.getD_eq_getElem?_getD,List.getElem?_append_right (by omega),← b0,← List.getD_eq_getElem?_getD]
         rw [e1,Nat.add_zero]; exact hrel _ hql) (zbpf (fun q hq => (g6 q hq).2.2) hnsc)
      simp only [Sem.run_bind,r,iz,Nat.zero_add,s1,Result.andThen_ok,Sem.run_pure]
      refine ⟨_,_,_,m.le_push _,?_,hp,hK⟩
      have:=bm.slice (m:=m.push ⟨(m.l j).b,0,(m.l j).room⟩) σ.next 0 (sLen + n) i.size k (by simp [Mp.push,h.next]) hroom (by simp [Mp.push,h.next,hr])
      simpa [Mp.push,h.next] using this
    · have hcells:∀ q,q < sLen * i.size → w.cell? ⟨(m.l j).b,q,none⟩ = some (cur.getD q undef):=fun q hq => by
       have:=(g6 q (by omega)).1
       simp [World.cell?,g1,Array.getD,this]
      refine grow .app (some ⟨(m.l j).b,0,none⟩) sLen k cs ((List.range (sLen * i.size)).map fun q => cur.getD q undef) (σ.set j (.cells e cs .ro)) (h.toRo hcs) rfl (by omega) b1 b2 b0.symm (by simp [b0]) (fun q hq => ?_) (fun q hq => ?_) (fun w' hw' => ?_) hK
      · have hq2:q < sLen * i.size:=by omega
        have e1:((List.range (sLen * i.size)).map fun q => cur.getD q undef).getD q undef = cur.getD q undef:=by simp [List.getD,hq2]
        rw [e1]; exact (g6 q (by omega)).2.1
      · exact (g6 q hq).2.2
      · have:=run_loadCells w' (P:=P) ⟨(m.l j).b,0,none⟩ (sLen * i.size) (fun q => cur.getD q undef) (fun q hq => by
         rw [iz,Nat.zero_add]
         have:=hcells q hq
         unfold World.cell? at this ⊢
         rw [hw']; exact this)
        simpa [Builtin.firstCells] using this
 | _ => exact hK.elim
theorem pa {t u ty e:TypeId} {i:TypeInfo} (ht:P.underlying t = some (.slice e)) (hu:∃ d,P.underlying u = some d ∧ ∀ k,d ≠ .int k) (hi:P.info? e = some i)
 {x:Value} (hlen:(Builtin.lenOf x).run P w = .ok 0 w) (hx:(Builtin.firstCells i.size 0 x).run P w = .ok #[] w) (h:Rep B w0 σ m w) {v c:Value} (hv:bm m v c) (hK:eu v (K v σ) fun _ _ _ => K v σ) :
 ki P B w0 m K ((do pure (.value (← Builtin.append_ #[t,u] ty #[c,x])):Sem Next).run P w):=by
 have key:∀ (b:Option Addr) (n k:Nat),n ≤ k → (Builtin.append_ #[t,u] ty #[.slice b n k,x]).run P w = .ok (.slice b n k) w:=by
  intro b n k hnk
  obtain ⟨d,hd,hnd⟩:=hu
  have hzero:((match d with | .int _ => true | _ => false):Bool) = false:=by cases d <;> first | rfl | exact absurd rfl (hnd _)
  have hz':(sizeOf e).run P w = .ok i.size w:=by rw [run_sizeOf w hi]; simp [Program.cellsOf,hi]
  simp only [Builtin.append_,List.getElem?_toArray,List.getElem?_cons_zero,List.getElem?_cons_succ,Sem.run_bind,run_underlying ht,Result.andThen_ok,hz',run_underlying hd,Sem.run_pure,hzero,Bool.false_eq_true,if_false,hlen,Nat.add_zero,if_pos hnk,Bool.not_false,if_true,hx]
  cases b <;> simp [storeCells]
 cases hv with
 | nilS => simp only [Sem.run_bind,key none 0 0 (Nat.le_refl _),Result.andThen_ok,Sem.run_pure]; exact .val h .nilS hK
 | slice j o n s k hj hk hr => simp only [Sem.run_bind,key _ n k hk,Result.andThen_ok,Sem.run_pure]; exact .val h (.slice j o n s k hj hk hr) hK
 | sliceE j o s ae => simp only [Sem.run_bind,key _ 0 0 (Nat.le_refl _),Result.andThen_ok,Sem.run_pure]; exact .val h (.sliceE j o s ae) hK
 | _ => exact hK.elim
theorem zce1 {t ty e:TypeId} {i:TypeInfo} {z:Value} (ht:P.underlying t = some (.slice e)) (hi:P.info? e = some i) (hz:dt P e = some z) (hzs:z.cells.size = i.size) (hi0:i.size ≠ 0)
 {v c v2 c2:Value} (h:Rep B w0 σ m w) (hv:bm m v c) (h2:bm m v2 c2)
 (hK:eu v2 (eu v (K v σ) fun _ _ _ => K v σ) fun a n sx =>
  (n = 0 → eu v (K v σ) fun _ _ _ => K v σ) ∧ (n ≠ 0 → sx = i.size ∧ mq (σ.row a.block a.off (n * i.size)) fun news => zbah σ e i.size i.bytes v n news K)) :
 ki P B w0 m K ((do pure (.value (← Builtin.append_ #[t,t] ty #[c,c2])):Sem Next).run P w):=by
 have hu:∃ d,P.underlying t = some d ∧ ∀ k,d ≠ .int k:=⟨_,ht,fun k => by simp⟩
 cases h2 with
 | nilS => exact pa ht hu hi (by simp [Builtin.lenOf]) (by simp [Builtin.firstCells]) h hv hK
 | sliceE j o s ae => exact pa ht hu hi (by simp [Builtin.lenOf]) (by simp [Builtin.firstCells,loadCells,loadCellsFrom]) h hv (hK.1 rfl)
 | slice j o n s k hj hk hr =>
  simp only [eu] at hK
  by_cases hn:n = 0
  · subst hn
    exact pa ht hu hi (by simp [Builtin.lenOf]) (by simp [Builtin.firstCells,loadCells,loadCellsFrom]) h hv (hK.1 rfl)
  · obtain ⟨hs,hK2⟩:=hK.2 hn
    clear hK
    subst hs
    cases hrow:σ.row j o (n * i.size) with
    | none => rw [hrow] at hK2; exact hK2.elim
    | some news =>
     rw [hrow] at hK2
     have hnl:=(ah.row_load hrow).1
     obtain ⟨cs,c1,c2,c3,c4,c5⟩:=h.row P (by rw [← h.next]; exact hj) hrow
     refine zbrq ht hu hi hz hzs hi0 hn hnl c1 c3 c4 (fun w => by simp [Builtin.lenOf]) (fun w' hw' => ?_) h hv hK2
     have:=run_loadCells_list (P:=P) w' ⟨(m.l j).b,(m.l j).base + o,none⟩ cs (fun q v hq => by
      obtain ⟨hql,hqv⟩:=List.getElem?_eq_some_iff.1 hq
      have:=c5 q (by omega)
      rw [iz]
      unfold World.cell? at this ⊢
      rw [hw',this]
      have e1:cs.getD q undef = v:=by rw [List.getD_eq_getElem?_getD,hq,Option.getD_some]
      rw [e1])
     rw [c1,hnl] at this
     simpa [Builtin.firstCells] using this
 | _ => exact hK.elim
theorem qi (s:ByteArray):(di s).length = s.size:=by simp [di]
theorem zbmn (m:Mp) (s:ByteArray):∀ j,j < (di s).length → bm m ((di s).getD j undef) ((di s).getD j undef) ∧ scalar ((di s).getD j undef) = true:=by
 intro j hj
 have hj':j < s.data.toList.length:=by simpa [di] using hj
 have e:(di s).getD j undef = .int .u8 (s.data.toList[j]).toNat:=by
  simp only [di,List.getD_eq_getElem?_getD,List.getElem?_map,List.getElem?_eq_getElem hj',Option.map_some,Option.getD_some]
 rw [e]
 exact ⟨.int _ _,rfl⟩
theorem zb7n {t u ty e:TypeId} {i:TypeInfo} {z:Value} (ht:P.underlying t = some (.slice e)) (hu:P.underlying u = some .string) (hi:P.info? e = some i) (hz:dt P e = some z) (hzs:z.cells.size = 1) (hi1:i.size = 1) (hb1:i.bytes = 1)
 {v c v2 c2:Value} (h:Rep B w0 σ m w) (hv:bm m v c) (h2:bm m v2 c2)
 (hK:b8 v2 fun str => (str.size = 0 → eu v (K v σ) fun _ _ _ => K v σ) ∧ (str.size ≠ 0 → zbah σ e 1 1 v str.size (di str) K)) :
 ki P B w0 m K ((do pure (.value (← Builtin.append_ #[t,u] ty #[c,c2])):Sem Next).run P w):=by
 have hu':∃ d,P.underlying u = some d ∧ ∀ k,d ≠ .int k:=⟨_,hu,fun k => by simp⟩
 cases h2 with
 | string s =>
  simp only [b8] at hK
  have hfc:∀ (n:Nat) (w':World),n = s.size → (Builtin.firstCells i.size n (.string s)).run P w' = .ok (di s).toArray w':=fun n w' hn => by
   subst hn
   exact Lib.run_firstCells_string (P:=P) (w:=w') i.size s
  by_cases h0:s.size = 0
  · have e0:di s = []:=List.eq_nil_of_length_eq_zero (by rw [qi]; exact h0)
    exact pa ht hu' hi (by simp [Builtin.lenOf,h0]) (by have:=hfc 0 w h0.symm; rw [e0] at this; exact this) h hv (hK.1 h0)
  · refine zbrq (news:=di s) (cnews:=di s) ht hu' hi hz (by rw [hzs,hi1]) (by omega) h0 (by rw [qi,hi1,Nat.mul_one]) rfl (fun j hj => (zbmn m s j hj).1) (fun j hj => (zbmn m s j hj).2) (fun w => by simp [Builtin.lenOf]) (fun w' _ => hfc _ w' rfl) h hv ?_
    rw [hi1,hb1]
    exact hK.2 h0
 | _ => exact hK.elim
theorem zb7x {s t e:TypeId} (hs:P.underlying s = some .string) (ht:P.underlying t = some (.slice e)) (he:P.underlying e = some (.int .u8)) {v c:Value} (h:Rep B w0 σ m w) (hv:bm m v c)
 (hK:b8 v fun s => ∃ md,K (.slice (some ⟨σ.next,0,none⟩) s.size 1) (σ.push (.cells e (di s) md))):ki P B w0 m K ((do pure (.value (← convert s t c)):Sem Next).run P w):=by
 cases hv with
 | string str =>
  obtain ⟨md,hK⟩:=hK
  simp only [Sem.run_bind,Lib.run_convert_string_bytes w s t e str hs ht he,Result.andThen_ok,Sem.run_pure]
  have hge:=grownCap_ge w str.size 0 e
  have hsz:(Lib.bytesCells w e str).size = grownCap w str.size 0 e:=by simp [Lib.bytesCells]; omega
  have hp:=h.pushArr e (di str) (Lib.bytesCells w e str) (by rw [qi,hsz]; exact hge) (fun j hj => by
   have e1:(Lib.bytesCells w e str).getD j undef = (di str).getD j undef:=by
    rw [qi] at hj
    have hj2:j < (str.data.map fun b => Value.int .u8 b.toNat).size:=by simpa using hj
    rw [Lib.bytesCells,Array.getD_eq_getD_getElem?,Array.getElem?_append_left hj2]
    simp [di,List.getD]
   rw [e1]; exact (zbmn m str j hj).1) (fun j hj => (zbmn m str j hj).2) ((Lib.bytesCells w e str).size,(Lib.bytesCells w e str).size + 1) (fun o ho => by omega) (w':=Lib.bytesWorld w e str)
   ⟨rfl,rfl,rfl,by rw [Lib.bytesWorld_size]; omega,fun k hk => Lib.bytesWorld_at_old w e str k hk⟩ (Lib.bytesWorld_at_new w e str) md
  refine ⟨_,_,_,m.le_push _,?_,hp,hK⟩
  have:=bm.slice (m:=m.push ⟨w.heap.size,0,(Lib.bytesCells w e str).size⟩) σ.next 0 str.size 1 (grownCap w str.size 0 e) (by simp [Mp.push,h.next]) hge (by simp [Mp.push,h.next,hsz])
  simpa [Mp.push,h.next] using this
 | _ => exact hK.elim
theorem zbya:∀ (vs:List Value) (bs:List UInt8),ab vs = some bs → ∃ ns:List Int,vs = ns.map (Value.int .u8) ∧ bs = ns.map fun n => UInt8.ofNat n.toNat
 | [],bs,h => by injection h with h; subst h; exact ⟨[],rfl,rfl⟩
 | v :: r,bs,h => by
  unfold ab at h
  split at h
  · injection h with h; subst h; rename_i e; cases e
  · rename_i n r' e
    injection e with e1 e2
    subst e1 e2
    cases hb:ab r with
    | none => rw [hb] at h; cases h
    | some l =>
     rw [hb] at h
     injection h with h
     subst h
     obtain ⟨ns,h1,h2⟩:=zbya r l hb
     exact ⟨n :: ns,by simp [h1],by simp [h2]⟩
  · cases h
theorem lr {s t e:TypeId} (hs:P.underlying s = some (.slice e)) (ht:P.underlying t = some .string) (he:P.underlying e = some (.int .u8)) {v c:Value} (h:Rep B w0 σ m w) (hv:bm m v c)
 (hK:eu v (K (.string ⟨#[]⟩) σ) fun a n s => (n = 0 → K (.string ⟨#[]⟩) σ) ∧ (n ≠ 0 → mq ((σ.row a.block a.off n).bind ab) fun bs => K (.string ⟨bs.toArray⟩) σ)) :
 ki P B w0 m K ((do pure (.value (← convert s t c)):Sem Next).run P w):=by
 have conv:∀ (a:Option Addr) (n k:Nat) (s':ByteArray),(Conv.bytesToString (.slice a n k)).run P w = .ok (.string s') w → K (.string s') σ → ki P B w0 m K ((do pure (.value (← convert s t (.slice a n k))):Sem Next).run P w):=fun a n k s' h1 h2 => by
  rw [Sem.run_bind,run_convert_bytes_string w s t e a n k hs he ht,h1]
  exact .val h (.string _) h2
 have e0:∀ (a:Addr) (k:Nat),(Conv.bytesToString (.slice (some a) 0 k)).run P w = .ok (.string ⟨#[]⟩) w:=fun a k => by
  simp [Conv.bytesToString,loadCells,loadCellsFrom]
  rfl
 cases hv with
 | nilS => exact conv none 0 0 ⟨#[]⟩ (by simp [Conv.bytesToString]; rfl) hK
 | sliceE j o s ae => exact conv _ 0 0 ⟨#[]⟩ (e0 _ _) (hK.1 rfl)
 | slice j o n s k hj hk hr =>
  simp only [eu] at hK
  by_cases hn:n = 0
  · subst hn; exact conv _ 0 k ⟨#[]⟩ (e0 _ _) (hK.1 rfl)
  · have hK2:=hK.2 hn
    clear hK
    cases hrow:σ.row j o n with
    | none => rw [hrow] at hK2; exact hK2.elim
    | some vs =>
     rw [hrow] at hK2
     simp only [Option.bind_some] at hK2
     cases hb:ab vs with
     | none => rw [hb] at hK2; exact hK2.elim
     | some bs =>
      rw [hb] at hK2
      obtain ⟨ns,e1,e2⟩:=zbya vs bs hb
      obtain ⟨cs,c1,c2,c3,c4,c5⟩:=h.row P (by rw [← h.next]; exact hj) hrow
      have ecs:cs = ns.map (Value.int .u8):=by
       apply List.ext_getElem (by rw [c1,e1])
       intro q h1 h2
       have:=c3 q (by omega)
       have g1:vs.getD q undef = .int .u8 (ns[q]'(by simpa using h2)):=by
        rw [e1]; simp only [List.getD_eq_getElem?_getD,List.getElem?_map]
        rw [List.getElem?_eq_getElem (by simpa using h2)]; rfl
       have g2:cs.getD q undef = cs[q]:=by rw [List.getD_eq_getElem?_getD,List.getElem?_eq_getElem h1,Option.getD_some]
       rw [g1,g2] at this
       rw [tw this]; simp
      refine conv _ n k ⟨bs.toArray⟩ ?_ hK2
      rw [run_bytesToString w _ n k ns (by rw [← ecs]; exact c2),foldl_push_bytes,e2]
      simp [ByteArray.empty,ByteArray.emptyWithCapacity]
      rfl
 | _ => exact hK.elim
theorem lu {t:TypeId} (h:Rep B w0 σ m w) (hK:K (.map (some σ.next)) (σ.push (.map []))):ki P B w0 m K ((do pure (.value (← Instr.makeMap t none)):Sem Next).run P w):=by
 have hB:B ≤ w.heap.size:=Nat.le_trans h.base h.below.size
 have hw:Below w.heap.size w (w.alloc (.map #[] 0)):=⟨rfl,rfl,rfl,by simp,fun k hk => Below.heap_alloc _ _ _ hk⟩
 have h':=h.later hw
 have key:∀ k,k < σ.next → ((σ.push (.map [])).blk k) = σ.blk k:=fun k hk => by simp [ah.push]; omega
 have kem:∀ k,k < σ.next → (m.push ⟨w.heap.size,0,0⟩).l k = m.l k:=fun k hk => by simp [Mp.push,h.next]; omega
 have knw:(m.push ⟨w.heap.size,0,0⟩).l σ.next = ⟨w.heap.size,0,0⟩:=by simp [Mp.push,h.next]
 refine ⟨_,m.push ⟨w.heap.size,0,0⟩,_,m.le_push _,?_,⟨by simp [Mp.push,ah.push,h.next],h'.below,h.base,fun i hi => ?_,fun i j hi hj hij hr hl => ?_⟩,hK⟩
 · have:=bm.map (m:=m.push ⟨w.heap.size,0,0⟩) σ.next (by simp [Mp.push,h.next])
   rw [knw] at this
   exact this
 · have hi2:i < σ.next + 1:=hi
   by_cases hin:i = σ.next
   · subst hin
     rw [knw]
     have e1:(σ.push (.map [])).blk σ.next = .map []:=by simp [ah.push]
     rw [e1]
     exact ⟨hB,#[],0,heap_alloc_new w _,rfl,fun j hj => by simp at hj⟩
   · have hi':i < σ.next:=by omega
     rw [kem i hi',key i hi']
     exact (h'.blk i hi').mono (m.le_push _)
 · have hi2:i < σ.next + 1:=hi
   have hj2:j < σ.next + 1:=hj
   by_cases hin:i = σ.next
   · have hj':j < σ.next:=by omega
     rw [hin,knw,kem j hj']
     rw [key j hj'] at hl
     have:=(h.blk j hj').lt hl
     simp only
     left
     omega
   · have hi':i < σ.next:=by omega
     rw [key i hi'] at hr
     by_cases hjn:j = σ.next
     · rw [hjn,knw,kem i hi']
       have:=(h.blk i hi').lt (Blk.live_of_own hr)
       simp only
       left
       omega
     · have hj':j < σ.next:=by omega
       rw [key j hj'] at hl
       rw [kem i hi',kem j hj',key i hi',key j hj']
       exact h.apart i j hi' hj' hij hr hl
theorem zb8a {t e:TypeId} {len:Nat} (ht:P.underlying t = some (.array len e)) (ha:rz P e = some false) (hn:szT P e = some 1) {v c v2 c2:Value} (h:Rep B w0 σ m w) (h1:bm m v c) (h2:bm m v2 c2)
 (hK:dd v fun cs => ao v2 fun _ n => (0 ≤ n ∧ n < len ∧ len ≤ cs.size) ∧ K (cs.getD n.toNat undef) σ):ki P B w0 m K ((do pure (.value (← Instr.index t c c2)):Sem Next).run P w):=by
 cases h1 with
 | agg a b hs hv =>
  cases h2 with
  | int k x =>
   obtain ⟨⟨g1,g2,g3⟩,hK⟩:=hK
   have hlt:x.toNat < b.size:=by omega
   have e1:b[x.toNat]? = some (b.getD x.toNat undef):=by simp [Array.getD,hlt]
   simp only [Instr.index,Sem.run_bind,asIntOf,run_underlying ht,Result.andThen_ok,Sem.run_pure,if_pos (show 0 ≤ x ∧ x < (len:Int) from ⟨g1,g2⟩),nv hn,Nat.mul_one,part,od ha,Bool.false_eq_true,if_false,e1,Sem.run_ite]
   exact .val h (hv _ (by omega)) hK
  | _ => exact hK.elim
 | _ => exact hK.elim
theorem zb8q {t e:TypeId} {len n:Nat} (ht:P.underlying t = some (.array len e)) (ha:rz P e = some true) (hn:szT P e = some n) {v c v2 c2:Value} (h:Rep B w0 σ m w) (h1:bm m v c) (h2:bm m v2 c2)
 (hK:dd v fun cs => ao v2 fun _ i => (0 ≤ i ∧ i < len ∧ len * n ≤ cs.size) ∧ K (.agg (cs.extract (i.toNat * n) (i.toNat * n + n))) σ):ki P B w0 m K ((do pure (.value (← Instr.index t c c2)):Sem Next).run P w):=by
 cases h1 with
 | agg a b hs hv =>
  cases h2 with
  | int k x =>
   obtain ⟨⟨g1,g2,g3⟩,hK⟩:=hK
   have hle:x.toNat * n + n ≤ a.size:=by
    have:(x.toNat + 1) * n ≤ len * n:=Nat.mul_le_mul_right _ (by omega)
    rw [Nat.add_mul,Nat.one_mul] at this
    omega
   simp only [Instr.index,Sem.run_bind,asIntOf,run_underlying ht,Result.andThen_ok,Sem.run_pure,if_pos (show 0 ≤ x ∧ x < (len:Int) from ⟨g1,g2⟩),nv hn,part,od ha,if_true,Sem.run_ite]
   refine .val h (.agg _ _ (by simp [hs]) fun j hj => ?_) hK
   have hj':j < n:=by simp at hj; omega
   have ex:∀ (q:Array Value),x.toNat * n + n ≤ q.size → (q.extract (x.toNat * n) (x.toNat * n + n)).getD j undef = q.getD (x.toNat * n + j) undef:=fun q hq => by
    rw [Array.getD_eq_getD_getElem?,Array.getD_eq_getD_getElem?,Array.getElem?_extract,if_pos (by omega)]
   rw [ex a hle,ex b (by omega)]
   exact hv _ (by omega)
  | _ => exact hK.elim
 | _ => exact hK.elim
end
end Go.Proofs.Ytgkkienmocpnbaa.Sh
