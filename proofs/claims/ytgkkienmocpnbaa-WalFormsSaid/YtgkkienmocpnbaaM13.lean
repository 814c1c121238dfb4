import Derived.Test.YtgkkienmocpnbaaM5
import Derived.Carry
import Derived.ChangeSame
import Derived.SizedLaws
import Derived.ChangeArms
import Derived.WideShapes
import Derived.Test.YtgkkienmocpnbaaTv9
set_option linter.unusedVariables false
set_option linter.unusedSimpArgs false
namespace Go.Proofs.Ytgkkienmocpnbaa.Sh
open Go Go.RowKit
def ah.none:ah:=⟨0,fun _ => .dead⟩
theorem Rep.none (W:World):Rep W.heap.size W ah.none ⟨0,fun _ => ⟨0,0,0⟩⟩ W :=
 ⟨rfl,.refl _ _,Nat.le_refl _,fun i hi => absurd hi (Nat.not_lt_zero _),fun i j hi => absurd hi (Nat.not_lt_zero _)⟩
theorem zcar {P:Program} {f:FuncId} {args:List Value} {σ:ah} (h:im P f args σ fun v _ => v = .bool true) {W:World} {m:Mp} {cargs:Array Value} (hr:Rep W.heap.size W σ m W)
 (hs:cargs.size = args.length) (hv:∀ i,i < args.length → bm m (args.getD i undef) (cargs.getD i undef)) :
 Calls P f cargs W fun e W' => e = .returned (.bool true) ∧ Below W.heap.size W W' :=
 (h.2 _ _ m W cargs hr hs hv).mono fun e w' ⟨v,c,m',σ',h1,h2,h3,h4,h5⟩ => by
  subst h5
  rw [zbl8 h3] at h1
  exact ⟨h1,h4.below⟩
theorem zcd3 {H:Type} {enc:TypeId × Value → H} {P:Program} {f:Func} {s:ChangeSpec} {apart:Bool} {W W':World} {args:Array Value} {v:Value} {ds gs:List (DataW H)} {before:List MemPlace}
 (hl:laidOutB P = true) (hts:(f.params.toList.all fun t => P.readableRec t && decide (t < P.types.size)) = true)
 (hW:DataW.Whole enc P f.params.toList s.vars apart W args.toList ds gs before) (hb:Below W.heap.size W W') (hsv:s.vars = [])
 (hfa:gs = [] → (s.fn H ds).args = ds) (hfv:gs = [] → (s.fn H ds).vars = [])
 (hres:gs = [] → DataW.TrodAll enc P W' W.heap.size (fun _ => false) false f.resultTypes.toList (v.resultList f.resultTypes.size) (s.fn H ds).results []) :
 s.post enc P f apart true false false W args v W':=by
 have hW':=hW
 obtain ⟨p,q,hA,hV,rfl,hfz,hnd⟩:=hW
 rw [hsv] at hV
 have hg:gs = [] ∧ q = []:=by
  cases gs with
  | nil => exact ⟨rfl,hV⟩
  | cons => exact hV.elim
 obtain ⟨rfl,rfl⟩:=hg
 have hlt:=hA.lt
 refine ⟨ds,[],p ++ [],[],p,[],hW',?_,?_,?_,zb90 hb _,fun h => by cases h⟩
 · rw [List.append_nil]; exact hres rfl
 · rw [List.append_nil,hfa rfl]
   exact zbzw hl hb _ _ _ _ hts hA hlt
 · rw [List.append_nil,hfv rfl,hsv]
   rfl
open Go Go.RowKit Go.WideShapes
theorem zcei:reachBytes = 140737488351232:=by decide
theorem Rep.pushRo {W:World} {σ:ah} {m:Mp} (h:Rep W.heap.size W σ m W) (t:TypeId) (cs:List Value) (b off room:Nat) {c:Array Value} {t':TypeId} {fz:Nat × Nat} (hb:W.heap[b]? = some (.cells c t' fz))
 (hc:∀ j,j < cs.length → off + j < c.size ∧ bm m (cs.getD j undef) (c.getD (off + j) undef) ∧ scalar (cs.getD j undef) = true) :
 Rep W.heap.size W (σ.push (.cells t cs .ro)) (m.push ⟨b,off,room⟩) W where
 next:=by simp [Mp.push,ah.push,h.next]
 below:=h.below
 base:=h.base
 blk:=fun i hi => by
  have hi':i < σ.next + 1:=hi
  by_cases e:i = σ.next
  · have e1:(m.push ⟨b,off,room⟩).l i = ⟨b,off,room⟩:=by simp [Mp.push,h.next,e]
    have e2:(σ.push (.cells t cs .ro)).blk i = .cells t cs .ro:=by simp [ah.push,e]
    rw [e1,e2]
    exact ⟨c,t',fz,hb,fun j hj => ⟨(hc j hj).1,((hc j hj).2.1).mono (m.le_push _),(hc j hj).2.2⟩,fun e => (e rfl).elim⟩
  · have e1:(m.push ⟨b,off,room⟩).l i = m.l i:=by simp [Mp.push,h.next,e]
    have e2:(σ.push (.cells t cs .ro)).blk i = σ.blk i:=by simp [ah.push,e]
    rw [e1,e2]
    exact (h.blk i (by omega)).mono (m.le_push _)
 apart:=fun i j hi hj hij hrw hlv => by
  have hi':i < σ.next + 1:=hi
  exfalso
  simp only [ah.push] at hrw
  by_cases e:i = σ.next
  · rw [if_pos e] at hrw; cases hrw
  · rw [if_neg e] at hrw
    have hb':=h.blk i (by omega)
    cases hq:σ.blk i with
    | dead => rw [hq] at hrw; cases hrw
    | cells t2 cs2 rw2 =>
     rw [hq] at hrw hb'
     obtain ⟨c2,t3,fz2,g1,_,g3⟩:=hb'
     have:=(g3 (by rintro rfl; cases hrw)).1
     have:=(Array.getElem?_eq_some_iff.1 g1).1
     omega
    | map es =>
     rw [hq] at hb'
     obtain ⟨g1,ents,clock,g2,_⟩:=hb'
     have:=(Array.getElem?_eq_some_iff.1 g2).1
     omega
class Arg (α:Type) where
 sz:Nat
 fits:Program → TypeId → Bool
 rel:ah → List Value → α → Prop
 ok:α → Prop
 agg:Bool:=false
structure zbcv {α:Type} [Arg α] (W:World) (σ:ah) (m:Mp) (cs:List Value) (a:α) (vs:List Value) (σ':ah) (m':Mp):Prop where
 le:σ.le σ'
 mle:m.le m'
 rep:Rep W.heap.size W σ' m' W
 len:vs.length = Arg.sz α
 clen:cs.length = Arg.sz α
 vals:∀ j,j < vs.length → bm m' (vs.getD j undef) (cs.getD j undef) ∧ scalar (vs.getD j undef) = true
 rel:Arg.rel σ' vs a
 ok:Arg.ok a
class ArgL (α:Type) [Arg α]:Prop where
 mono:∀ {σ σ':ah} {vs:List Value} {a:α},σ.le σ' → Arg.rel σ vs a → Arg.rel σ' vs a
 size:∀ {P:Program} {t:TypeId},Arg.fits α P t = true → P.cellsOf t = Arg.sz α
 form:∀ {P:Program} {t:TypeId} {W:World} {r:Reach} {base:Nat} {v:Value},Arg.fits α P t = true → Value.okWide P W r base t v → v = bif Arg.agg α then .agg v.cells else v.cells.getD 0 undef
 imp:∀ {P:Program} {H:Type} {enc:TypeId × Value → H} {W:World} {fuel:Nat} {t:TypeId} {cs:List Value} {x:DataW H × List MemPlace},Arg.fits α P t = true →
  DataW.trod enc P W 0 (fun _ => true) true fuel t cs = some x → (∀ n ∈ x.1.weights P t,n ≤ reachBytes) → ∀ (σ:ah) (m:Mp),Rep W.heap.size W σ m W → ∃ (a:α) (vs:List Value) (σ':ah) (m':Mp),zbcv W σ m cs a vs σ' m'
theorem zb0p {m:Mp} {v c:Value} (h:bm m v c) (hs:scalar v = true):∀ j,j < [v].length → bm m ([v].getD j undef) ([c].getD j undef) ∧ scalar ([v].getD j undef) = true:=fun j hj => by
 obtain rfl:j = 0:=by simpa using hj
 exact ⟨h,hs⟩
theorem zb0o {P:Program} {t:TypeId} (n:Nat) (h:szT P t = some n):P.cellsOf t = n:=by
 unfold szT at h
 cases hi:P.info? t with
 | none => rw [hi] at h; cases h
 | some i => rw [hi] at h; injection h with h; simp [Program.cellsOf,hi,h]
def zbgy (k:IntKind) (P:Program) (t:TypeId):Bool:=(match P.underlying t with | some (.int k') => k' == k | _ => false) && szT P t == some 1
instance:Arg Int where
 sz:=1
 fits:=zbgy .i64
 rel:=fun _ vs n => vs = [.int .i64 n]
 ok:=fun n => -9223372036854775808 ≤ n ∧ n ≤ 9223372036854775807
theorem zbpg {k:IntKind} {P:Program} {t:TypeId} (h:zbgy k P t = true):P.underlying t = some (.int k) ∧ P.cellsOf t = 1:=by
 unfold zbgy at h
 simp only [Bool.and_eq_true,beq_iff_eq] at h
 refine ⟨?_,zb0o 1 h.2⟩
 have h1:=h.1
 split at h1
 · rename_i k' e; rw [e,show k' = k by simpa using h1]
 · cases h1
theorem zbje {n:Int} (h:(Lit.int .i64 n).wf = true):-9223372036854775808 ≤ n ∧ n ≤ 9223372036854775807:=by
 have e1:IntKind.i64.min = -9223372036854775808:=by decide
 have e2:IntKind.i64.max = 9223372036854775807:=by decide
 simp only [Lit.wf,e1,e2,Bool.and_eq_true,decide_eq_true_eq] at h
 exact h
instance:ArgL Int where
 mono:=fun _ h => h
 size:=fun h => (zbpg h).2
 form:=fun hf hv => by obtain ⟨n,rfl⟩:=okWide_int (zbpg hf).1 hv; rfl
 imp:=fun {P H enc W fuel t cs x} hf hx hw σ m hr => by
  obtain ⟨n,rfl,rfl,hwf⟩:=DataW.trod_int (zbpg hf).1 hx
  exact ⟨n,[.int .i64 n],σ,m,.refl _,.refl _,hr,rfl,rfl,zb0p (.int _ _) rfl,rfl,zbje hwf⟩
def isT (p:TypeDesc → Bool) (n:Nat) (P:Program) (t:TypeId):Bool:=(match P.underlying t with | some d => p d | none => false) && szT P t == some n
theorem zbn1 {p:TypeDesc → Bool} {n:Nat} {P:Program} {t:TypeId} (h:isT p n P t = true):(∃ d,P.underlying t = some d ∧ p d = true) ∧ P.cellsOf t = n:=by
 unfold isT at h
 simp only [Bool.and_eq_true,beq_iff_eq] at h
 refine ⟨?_,zb0o n h.2⟩
 have h1:=h.1
 split at h1
 · rename_i d e; exact ⟨d,e,h1⟩
 · cases h1
def zbqm:TypeDesc → Bool | .string => true | _ => false
instance:Arg ByteArray where
 sz:=1
 fits:=isT zbqm 1
 rel:=fun _ vs s => vs = [.string s]
 ok:=fun s => s.size ≤ 140737488351232
instance:ArgL ByteArray where
 mono:=fun _ h => h
 size:=fun h => (zbn1 h).2
 form:=fun hf hv => by
  obtain ⟨d,hd,hp⟩:=(zbn1 hf).1
  have e:d = .string:=by cases d <;> first | rfl | cases hp
  subst e
  obtain ⟨n,rfl⟩:=okWide_string hd hv; rfl
 imp:=fun {P H enc W fuel t cs x} hf hx hw σ m hr => by
  obtain ⟨d,hd,hp⟩:=(zbn1 hf).1
  have e:d = .string:=by cases d <;> first | rfl | cases hp
  subst e
  obtain ⟨s,rfl,rfl,hs⟩:=DataW.trod_string hd hx
  refine ⟨s,[.string s],σ,m,.refl _,.refl _,hr,rfl,rfl,zb0p (.string _) rfl,rfl,?_⟩
  have:=hw s.data.toList.length (by simp [DataW.weights])
  rw [zcei] at this
  show s.size ≤ 140737488351232
  simpa using this
class Flds (β:Type) where
 sz:Nat
 fits:Program → List Field → Nat → Bool
 rel:ah → List Value → β → Prop
 ok:β → Prop
class FldsL (β:Type) [Flds β]:Prop where
 mono:∀ {σ σ':ah} {vs:List Value} {a:β},σ.le σ' → Flds.rel σ vs a → Flds.rel σ' vs a
 imp:∀ {P:Program} {H:Type} {enc:TypeId × Value → H} {W:World} {fuel:Nat} {fs:List Field} {off:Nat} {cs:List Value} {xs:List (DataW H × List MemPlace)},Flds.fits β P fs off = true →
  (∀ (i:Nat) (f:Field),fs[i]? = some f → DataW.trod enc P W 0 (fun _ => true) true fuel f.type ((cs.drop f.offset).take (P.cellsOf f.type)) = xs[i]?) → xs.length = fs.length → off + Flds.sz β = cs.length →
  (∀ n ∈ DataW.weightsEach P (fs.map (·.type)) (xs.map (·.1)),n ≤ reachBytes) → ∀ (σ:ah) (m:Mp),Rep W.heap.size W σ m W → ∃ (a:β) (vs:List Value) (σ':ah) (m':Mp),
   σ.le σ' ∧ m.le m' ∧ Rep W.heap.size W σ' m' W ∧ vs.length = Flds.sz β ∧ (∀ j,j < vs.length → bm m' (vs.getD j undef) (cs.getD (off + j) undef) ∧ scalar (vs.getD j undef) = true) ∧ Flds.rel σ' vs a ∧ Flds.ok a
structure Rec (β:Type) where
 val:β
def toV (α:Type) [Arg α] (vs:List Value):Value:=bif Arg.agg α then .agg vs.toArray else vs.getD 0 undef
def zbli {α:Type} [Arg α] (σ:ah) (v:Value) (a:α):Prop:=∃ vs,v = toV α vs ∧ vs.length = Arg.sz α ∧ Arg.rel σ vs a
theorem zbli.mono {α:Type} [Arg α] [ArgL α] {σ σ':ah} {v:Value} {a:α} (hle:σ.le σ') (h:zbli σ v a):zbli σ' v a :=
 let ⟨vs,h1,h2,h3⟩:=h
 ⟨vs,h1,h2,ArgL.mono hle h3⟩
theorem uu {H:Type} {P:Program} {ts:List TypeId} {ds:List (DataW H)} (h:(DataW.weightsEach P ts ds).all (· ≤ reachBytes) = true) {j:Nat} {t:TypeId} {d:DataW H} (ht:ts[j]? = some t) (hd:ds[j]? = some d):∀ n ∈ d.weights P t,n ≤ reachBytes :=
 fun n hn => by simpa using List.all_eq_true.1 h n (DataW.weights_mem_each ht hd n hn)
theorem zbnr {α:Type} [Arg α] [ArgL α] {P:Program} {H:Type} {enc:TypeId × Value → H} {W:World} {t:TypeId} {v:Value} {d:DataW H} {ps:List MemPlace} {r:Reach} {base:Nat} (hf:Arg.fits α P t = true) (hv:Value.okWide P W r base t v)
 (hd:DataW.Trod enc P W 0 (fun _ => true) true t v d ps) (hw:∀ n ∈ d.weights P t,n ≤ reachBytes) {σ:ah} {m:Mp} (hr:Rep W.heap.size W σ m W) :
 ∃ (a:α) (v':Value) (σ':ah) (m':Mp),σ.le σ' ∧ m.le m' ∧ Rep W.heap.size W σ' m' W ∧ bm m' v' v ∧ zbli σ' v' a ∧ Arg.ok a:=by
 obtain ⟨fuel,hx⟩:=hd
 obtain ⟨a,vs,σ',m',i1,i2,i3,i4,i4',i5,i6,i7⟩:=ArgL.imp (α:=α) hf hx hw σ m hr
 refine ⟨a,toV α vs,σ',m',i1,i2,i3,?_,⟨vs,rfl,i4,i6⟩,i7⟩
 have hform:=ArgL.form (α:=α) hf hv
 have hcl:v.cells.size = Arg.sz α:=by simpa using i4'
 unfold toV
 cases hag:Arg.agg α
 · rw [hag] at hform
   simp only [cond_false] at hform ⊢
   rw [hform]
   by_cases h0:0 < vs.length
   · have:=(i5 0 h0).1
     simpa [List.getD_eq_getElem?_getD,Array.getD_eq_getD_getElem?] using this
   · have e1:vs = []:=by cases vs with | nil => rfl | cons => simp at h0
     have e2:v.cells.size = 0:=by rw [hcl,← i4,e1]; rfl
     have e3:v.cells.getD 0 undef = undef:=by simp [Array.getD,e2]
     rw [e1,e3]
     exact .undef _
 · rw [hag] at hform
   simp only [cond_true] at hform ⊢
   rw [hform]
   refine .agg _ _ (by simp [i4,hcl]) fun j hj => ?_
   have:=(i5 j (by simpa using hj)).1
   rw [bh]
   simpa [List.getD_eq_getElem?_getD,Array.getD_eq_getD_getElem?] using this
open Go Go.RowKit
class ArgT (α:Type) [Arg α] where
 enc:α → TV
 pos:0 < Arg.sz α
 form:Arg.agg α = false → ∀ a,(enc a).cells = [enc a]
 agg:Arg.agg α = true → ∀ a,enc a = .agg (enc a).cells
 rel:∀ {σ:ah} {vs:List Value} {a:α},Arg.rel σ vs a → vs.length = Arg.sz α → (enc a).cells.length = Arg.sz α ∧ ∀ j,j < Arg.sz α → PR σ ((enc a).cells.getD j .undef) (vs.getD j undef)
open ArgT (enc)
theorem zbxt {σ:ah} {v:TV} {w:Value} (hc:v.cells = [v]) (h:PR σ v w):v.cells.length = 1 ∧ ∀ j,j < 1 → PR σ (v.cells.getD j .undef) ([w].getD j undef):=by
 rw [hc]
 refine ⟨rfl,fun j hj => ?_⟩
 obtain rfl:j = 0:=by omega
 exact h
instance:ArgT Int where
 enc n:=.int .i64 n
 pos:=Nat.one_pos
 form _ _:=rfl
 agg h:=by cases h
 rel h _:=by
  have h:_ = [Value.int .i64 _]:=h
  rw [h]; exact zbxt rfl (.int _ _)
instance:ArgT ByteArray where
 enc s:=.str s
 pos:=Nat.one_pos
 form _ _:=rfl
 agg h:=by cases h
 rel h _:=by
  have h:_ = [Value.string _]:=h
  rw [h]; exact zbxt rfl (.str _)
class FldsT (β:Type) [Flds β] where
 encF:β → List TV
 rel:∀ {σ:ah} {vs:List Value} {a:β},Flds.rel σ vs a → vs.length = Flds.sz β → (encF a).length = Flds.sz β ∧ ∀ j,j < Flds.sz β → PR σ ((encF a).getD j .undef) (vs.getD j undef)
theorem zbom {α:Type} [Arg α] [ArgT α] {σ:ah} {e:Env} {tk:TK} {v:Value} {a:α} (h:zbli σ v a):TR σ e tk (enc a) v:=by
 obtain ⟨vs,rfl,h1,h2⟩:=h
 obtain ⟨r1,r2⟩:=ArgT.rel h2 h1
 unfold toV
 cases hag:Arg.agg α
 · have hf:=ArgT.form hag a
   rw [hf] at r1 r2
   have:=r2 0 (by simp at r1; omega)
   exact .pr this
 · rw [ArgT.agg hag a]
   refine .agg _ _ (by simp [r1,h1]) fun j hj => ?_
   have:=r2 j (by rw [← r1]; exact hj)
   rw [bh]
   exact .pr this
theorem zbpj {Γ:FuncId → Option TG} {f:FuncId} {g:List TV → TH → Option (TV × TH)} (hf:Γ f = some (.prim g)) {args:List TV} {τ:TH} {r:TV} {τ':TH} (h:g args τ = some (r,τ')):Ru Γ f args τ r τ':=by
 refine ⟨1,?_⟩
 show ku Γ (a7 Γ 0) f args τ = some (r,τ')
 simp only [ku,hf]
 exact h
def Lw (Γ:FuncId → Option TG) (f:FuncId) (args:List TV):Prop:=∃ τ',Ru Γ f args ⟨[],0⟩ (.bool true) τ'
theorem zbkj {P:Program} {Γ:FuncId → Option TG} (hG:GOK P Γ) {f:FuncId} {args:List TV} (h:Lw Γ f args) {σ:ah} {ws:List Value} (hl:args.length = ws.length)
 (ha:∀ i,i < args.length → TR σ ⟨fun _ => 0,0,fun _ => .none⟩ [] (args.getD i .undef) (ws.getD i undef)):im P f ws σ fun v _ => v = .bool true:=by
 obtain ⟨τ',k,hk⟩:=h
 have:=(zbit hG k).1 _ _ _ _ _ hk σ ⟨fun _ => 0,0,fun _ => .none⟩ ws ⟨rfl,fun g hg => absurd rfl hg,fun g id hg => (by rcases hg with hg | ⟨_,hg⟩ <;> cases hg),fun id hid => absurd hid (Nat.not_lt_zero _)⟩ (fun g i h => by cases h) hl ha
 exact this.mono fun v σ' ⟨e',_,h⟩ => np h
open Go Go.RowKit
theorem ob {α β:Type} {x:Option α} {f:α → Option β} {r:β} (h:(x >>= f) = some r):∃ a,x = some a ∧ f a = some r:=Option.bind_eq_some_iff.1 h
inductive LX (α β:Type) where
 | ex (a:α)
 | rt (b:β)
inductive LS (σ ρ:Type) where
 | nx (s:σ)
 | dn (r:ρ)
def pi {σ ρ:Type} (f:σ → Option (LS σ ρ)):Nat → σ → Option ρ
 | 0,_ => none
 | n + 1,s => match f s with
  | some (.nx s') => pi f n s'
  | some (.dn r) => some r
  | none => none
theorem zbn2 {σ ρ:Type} {f:σ → Option (LS σ ρ)}:∀ {n m:Nat} {s:σ} {r:ρ},n ≤ m → pi f n s = some r → pi f m s = some r
 | 0,_,_,_,_,h => by cases h
 | n + 1,0,_,_,h,_ => by omega
 | n + 1,m + 1,s,r,hle,h => by
  simp only [pi] at h ⊢
  cases hf:f s with
  | none => rw [hf] at h; cases h
  | some o =>
   rw [hf] at h
   cases o with
   | nx s' => exact zbn2 (by omega) h
   | dn r' => exact h
open Classical in
noncomputable def lf {σ ρ:Type} (f:σ → Option (LS σ ρ)) (s:σ):Option ρ:=if h:∃ r n,pi f n s = some r then some h.choose else none
theorem vb {σ ρ:Type} {f:σ → Option (LS σ ρ)} {s:σ} {r:ρ}:lf f s = some r ↔ ∃ n,pi f n s = some r:=by
 unfold lf
 constructor
 · intro h
   split at h
   · rename_i hx
     injection h with h
     obtain ⟨n,hn⟩:=hx.choose_spec
     exact ⟨n,by rw [hn,h]⟩
   · cases h
 · rintro ⟨n,hn⟩
   have hx:∃ r n,pi f n s = some r:=⟨r,n,hn⟩
   rw [dif_pos hx]
   obtain ⟨m,hm⟩:=hx.choose_spec
   have h1:=zbn2 (Nat.le_max_left n m) hn
   have h2:=zbn2 (Nat.le_max_right n m) hm
   rw [h1] at h2
   exact h2.symm
def LS.go {σ ρ:Type} (f:σ → Option ρ):LS σ ρ → Option ρ
 | .nx s => f s
 | .dn r => some r
theorem dj {σ ρ:Type} (f:σ → Option (LS σ ρ)) (s:σ):lf f s = f s >>= LS.go (lf f):=by
 cases hf:f s with
 | none =>
  cases h:lf f s with
  | none => rfl
  | some r =>
   obtain ⟨n,hn⟩:=vb.1 h
   cases n with
   | zero => cases hn
   | succ n => simp only [pi,hf] at hn; cases hn
 | some o =>
  cases o with
  | dn r => exact vb.2 ⟨1,by simp only [pi,hf]⟩
  | nx s' =>
   show lf f s = lf f s'
   cases h:lf f s' with
   | some r =>
    obtain ⟨n,hn⟩:=vb.1 h
    exact vb.2 ⟨n + 1,by simp only [pi,hf]; exact hn⟩
   | none =>
    cases h2:lf f s with
    | none => rfl
    | some r =>
     obtain ⟨n,hn⟩:=vb.1 h2
     cases n with
     | zero => cases hn
     | succ n =>
      simp only [pi,hf] at hn
      rw [vb.2 ⟨n,hn⟩] at h
      cases h
theorem ct {σ ρ:Type} {f:σ → Option (LS σ ρ)} {P:σ → ρ → Prop} (h:∀ s o,f s = some o → ∀ r,(match o with | .nx s' => P s' r | .dn r' => r' = r) → P s r) {s:σ} {r:ρ} (hr:lf f s = some r):P s r:=by
 obtain ⟨n,hn⟩:=vb.1 hr
 clear hr
 induction n generalizing s with
 | zero => cases hn
 | succ n ih =>
  simp only [pi] at hn
  cases hf:f s with
  | none => rw [hf] at hn; cases hn
  | some o =>
   rw [hf] at hn
   cases o with
   | nx s' => exact h s _ hf r (ih hn)
   | dn r' => injection hn with hn; exact h s _ hf r hn
def ixL {α:Type} (l:List α) (i:Int):Option α:=if 0 ≤ i then l[i.toNat]? else none
theorem au {α:Type} {l:List α} {i:Int} {x:α} (h:ixL l i = some x):0 ≤ i ∧ i < (l.length:Int) ∧ ∀ (enc:α → TV),(l.map enc).getD i.toNat .undef = enc x ∧ (l.map enc)[i.toNat]? = some (enc x):=by
 unfold ixL at h
 split at h
 · rename_i h0
   obtain ⟨hlt,hx⟩:=List.getElem?_eq_some_iff.1 h
   refine ⟨h0,by omega,fun enc => ?_⟩
   have:(l.map enc)[i.toNat]? = some (enc x):=by rw [List.getElem?_map,h]; rfl
   exact ⟨by rw [List.getD_eq_getElem?_getD,this]; rfl,this⟩
 · cases h
theorem xx {α:Type} {l:List α} {i:Nat} (h:i < l.length):ixL l (i:Int) = some l[i]:=by
 unfold ixL
 rw [if_pos (by omega),Int.toNat_natCast,List.getElem?_eq_getElem h]
def ixB (s:ByteArray) (i:Int):Option Int:=if 0 ≤ i ∧ i < (s.size:Int) then some ((s.data.getD i.toNat 0).toNat:Int) else none
theorem pd {s:ByteArray} {i x:Int} (h:ixB s i = some x):0 ≤ i ∧ i < (s.size:Int) ∧ ((s.data.getD i.toNat 0).toNat:Int) = x:=by
 unfold ixB at h
 split at h
 · rename_i h0; injection h with h; exact ⟨h0.1,h0.2,h⟩
 · cases h
def bo (s:ByteArray):List Int:=s.data.toList.map fun b => (b.toNat:Int)
theorem za99 (s:ByteArray):az s = (bo s).map (TV.int .u8):=by unfold az bo; rw [List.map_map]; rfl
theorem aj (s:ByteArray):(bo s).length = s.size:=by unfold bo; rw [List.length_map]; rfl
def ox (l:List Int):ByteArray:=⟨(l.map fun n => UInt8.ofNat n.toNat).toArray⟩
theorem zbol:∀ l:List Int,mo (l.map (TV.int .u8)) = some (l.map fun n => UInt8.ofNat n.toNat)
 | [] => rfl
 | n :: r => by simp only [List.map_cons,mo,zbol r,Option.map_some]
theorem zbdy (l:List Int):(⟨(l.map fun n => UInt8.ofNat n.toNat).toArray⟩:ByteArray) = ox l:=rfl
theorem zb6b {α:Type} {enc:α → TV} {n:Nat} (h:∀ x,((enc x).cells.length == n) = true) (l:List α):((l.map enc).all fun e => e.cells.length == n) = true:=by
 rw [List.all_map,List.all_eq_true]; intro x _; exact h x
theorem zb6a {α:Type} {enc:α → TV} (l k:List α):l.map enc ++ k.map enc = (l ++ k).map enc:=by rw [List.map_append]
theorem zbj4 {α:Type} {enc:α → TV} (l:List α) (i:Nat) (x:α):(l.map enc).set i (enc x) = (l.set i x).map enc:=by rw [List.map_set]
theorem kr {τ:TH} {id:Nat} {b:Ob} (h:τ.at id = some b):τ.put id b = τ:=by
 unfold TH.put TH.at at *
 obtain ⟨hlt,hb⟩:=List.getElem?_eq_some_iff.1 h
 cases τ with
 | mk o lk =>
  simp only at *
  congr 1
  rw [← hb]
  exact List.set_getElem_self hlt
theorem zbgu {a b:Nat} (h:a ≠ b) (τ:TH) (x y:Ob):(τ.put b y).put a x = (τ.put a x).put b y:=by
 unfold TH.put
 simp only
 congr 1
 exact List.set_comm _ _ (Ne.symm h)
theorem zbhd {τ:TH} {m n:Nat} (h:n ≤ m):(τ.cut m).cut n = τ.cut n:=by unfold TH.cut; simp only [List.take_take,Nat.min_eq_left h]
theorem cn {τ f:TH} {m n:Nat} (h:τ.cut m = f) (hn:n ≤ m):τ.cut n = f.cut n:=by rw [← h,zbhd hn]
theorem zbpw {α:Type} {enc:α → TV} (h:∀ x n m,(enc x).lt n m = true) (n m:Nat) (l:List α):ltL n m (List.map enc l) = true:=by
 induction l with
 | nil => rfl
 | cons a r ih => simp only [List.map_cons,ltL,h,ih,Bool.and_self]
theorem zbn8 {α:Type} {enc:α → TV} (h:∀ x n,(enc x).under n = true) (n:Nat) (l:List α):eo n (List.map enc l) = true:=by
 induction l with
 | nil => rfl
 | cons a r ih => simp only [List.map_cons,eo,h,ih,Bool.and_self]
theorem zbpz {α:Type} {enc:α → TV} (h:∀ x,(enc x).put = enc x) (l:List α):List.map TV.put (List.map enc l) = List.map enc l:=by
 rw [List.map_map]; congr 1; funext x; exact h x
theorem zayg {α:Type} {enc:α → TV} (h:∀ x,(enc x).rd = enc x) (l:List α):List.map TV.rd (List.map enc l) = List.map enc l:=by
 rw [List.map_map]; congr 1; funext x; exact h x
theorem zbnc {α:Type} {enc:α → TV} (h:∀ x,(enc x).canS = enc x) (l:List α):List.map TV.canS (List.map enc l) = List.map enc l:=by
 rw [List.map_map]; congr 1; funext x; exact h x
theorem zbpx {α:Type} {enc:α → TV} (h:∀ x,(enc x).one = true) (l:List α):(List.map enc l).all TV.one = true:=by
 rw [List.all_map,List.all_eq_true]; intro x _; exact h x
theorem LTM:((∀ k n m l,ltL n m (List.map (TV.int k) l) = true) ∧ (∀ k n l,eo n (List.map (TV.int k) l) = true) ∧ (∀ k l,List.map TV.put (List.map (TV.int k) l) = List.map (TV.int k) l) ∧ (∀ k l,List.map TV.rd (List.map (TV.int k) l) = List.map (TV.int k) l) ∧ (∀ k l,List.map TV.canS (List.map (TV.int k) l) = List.map (TV.int k) l) ∧ (∀ k l,(List.map (TV.int k) l).all TV.one = true)) ∧
 ((∀ n m l,ltL n m (List.map TV.bool l) = true) ∧ (∀ n l,eo n (List.map TV.bool l) = true) ∧ (∀ l,List.map TV.put (List.map TV.bool l) = List.map TV.bool l) ∧ (∀ l,List.map TV.rd (List.map TV.bool l) = List.map TV.bool l) ∧ (∀ l,List.map TV.canS (List.map TV.bool l) = List.map TV.bool l) ∧ (∀ l,(List.map TV.bool l).all TV.one = true)) ∧
 ((∀ n m l,ltL n m (List.map TV.str l) = true) ∧ (∀ n l,eo n (List.map TV.str l) = true) ∧ (∀ l,List.map TV.put (List.map TV.str l) = List.map TV.str l) ∧ (∀ l,List.map TV.rd (List.map TV.str l) = List.map TV.str l) ∧ (∀ l,List.map TV.canS (List.map TV.str l) = List.map TV.str l) ∧ (∀ l,(List.map TV.str l).all TV.one = true)) :=
 ⟨⟨fun k => zbpw fun _ _ _ => by simp [TV.lt],fun k => zbn8 fun _ _ => by simp [TV.under],fun k => zbpz fun _ => rfl,fun k => zayg fun _ => rfl,fun k => zbnc fun _ => rfl,fun k => zbpx fun _ => rfl⟩,
  ⟨zbpw fun _ _ _ => by simp [TV.lt],zbn8 fun _ _ => by simp [TV.under],zbpz fun _ => rfl,zayg fun _ => rfl,zbnc fun _ => rfl,zbpx fun _ => rfl⟩,
  ⟨zbpw fun _ _ _ => by simp [TV.lt],zbn8 fun _ _ => by simp [TV.under],zbpz fun _ => rfl,zayg fun _ => rfl,zbnc fun _ => rfl,zbpx fun _ => rfl⟩⟩
theorem zaax:∀ (vs cs pre:List TV),cs.length = vs.length → de (pre ++ cs) pre.length vs = pre ++ vs
 | [],cs,pre,h => by
  have:cs = []:=List.eq_nil_of_length_eq_zero h
  subst this; rfl
 | v :: r,[],pre,h => by cases h
 | v :: r,c :: cs,pre,h => by
  simp only [de]
  have e:(pre ++ c :: cs).set pre.length v = (pre ++ [v]) ++ cs:=by simp
  have:=zaax r cs (pre ++ [v]) (by simpa using h)
  rw [e]
  simp only [List.length_append,List.length_cons,List.length_nil,Nat.zero_add] at this
  rw [this]; simp
theorem av {α:Type} {enc:α → TV} {cs:List TV} {l:List α} (h:cs.length = l.length):de cs 0 (List.map enc l) = List.map enc l:=by
 have:=zaax (List.map enc l) cs [] (by simpa using h)
 simpa using this
theorem zbu8 {α:Type} {enc:α → TV} {l:List α} {n:Nat} (h:l.length = n) (hn:0 < n):(List.map enc l = []) = False:=by
 refine eq_false fun h2 => ?_
 have:=congrArg List.length h2
 simp at this
 rw [this] at h
 simp at h; omega
theorem zbox {α:Type} {enc:α → TV} {l:List α} {n:Nat} (h:l.length = n):List.take n (List.map enc l) = List.map enc l:=by
 rw [List.take_of_length_le]; simp [h]
theorem zbcm {α:Type} {enc:α → TV} (n:Nat) (x:α):(List.replicate n [enc x]).flatten = List.map enc (List.replicate n x):=by
 rw [List.map_replicate]
 induction n with
 | zero => rfl
 | succ n ih => rw [List.replicate_succ,List.flatten_cons,ih,List.replicate_succ]; rfl
theorem b9 {Γ:FuncId → Option TG} {lk:Bool} {f:FuncId} {args:List TV} {r:TV} {d:Option Nat} {K:ak} {fr:TF} {tk:TK} {τ:TH} (h0:Ru Γ f args τ r τ) (h1:Ru Γ f args (τ.locked τ.next) r (τ.locked τ.next)) (hu:eo τ.next args = true) :
 d9 Γ lk f args d K fr tk τ = K (dh fr d r) tk τ:=by
 cases lk
 · rw [zboc (lk:=false) h0 hu]; rfl
 · rw [zboc (lk:=true) h1 hu]; rfl
theorem iy {Γ:FuncId → Option TG} {f:FuncId} {args:List TV} {r:TV} {d:Option Nat} {K:ak} {fr:TF} {tk:TK} {τ τ':TH} (h0:Ru Γ f args τ r τ') (hu:eo τ.next args = true) :
 d9 Γ false f args d K fr tk τ = K (dh fr d r) tk τ':=by
 rw [zboc (lk:=false) h0 hu]; rfl
theorem ifS {c:Prop} [Decidable c] {α:Type} {x:Option α} {r:α} (h:(if c then x else none) = some r):c ∧ x = some r:=by
 by_cases hc:c
 · rw [if_pos hc] at h; exact ⟨hc,h⟩
 · rw [if_neg hc] at h; cases h
theorem nq {a b:Nat} (h:a ≠ b):((a = b) = False) ∧ ((b = a) = False) ∧ (∀ (τ:TH) (x y:Ob),(τ.put b y).put a x = (τ.put a x).put b y):=⟨eq_false h,eq_false (Ne.symm h),zbgu h⟩
theorem tbS:(∀ a:Int,Option.map (fun bs => TV.str ⟨bs.toArray⟩) (mo [.int .u8 a]) = some (TV.str (ox [a]))) ∧ (∀ a b:Int,Option.map (fun bs => TV.str ⟨bs.toArray⟩) (mo [.int .u8 a,.int .u8 b]) = some (TV.str (ox [a,b]))) ∧ (∀ a b c:Int,Option.map (fun bs => TV.str ⟨bs.toArray⟩) (mo [.int .u8 a,.int .u8 b,.int .u8 c]) = some (TV.str (ox [a,b,c]))) ∧ (∀ a b c d:Int,Option.map (fun bs => TV.str ⟨bs.toArray⟩) (mo [.int .u8 a,.int .u8 b,.int .u8 c,.int .u8 d]) = some (TV.str (ox [a,b,c,d]))):=⟨fun _ => rfl,fun _ _ => rfl,fun _ _ _ => rfl,fun _ _ _ _ => rfl⟩
theorem LTN:type_of% (And.intro LTM (And.intro tbS (And.intro @zbol @zbdy))):=And.intro LTM (And.intro tbS (And.intro @zbol @zbdy))
theorem MC:(∀ {α β:Type} (f:α → β) (a:α) (l:List α),List.map f (a :: l) = f a :: List.map f l) ∧ (∀ {α β:Type} (f:α → β),List.map f [] = []) ∧ (∀ n:Nat,((n:Int)).toNat = n):=⟨fun _ _ _ => rfl,fun _ => rfl,fun _ => rfl⟩
def os {α:Type} (E:α → TV):List α → TV
 | [] => .slz
 | x :: r => .sl (List.map E (x :: r))
section
variable {α:Type} (t u:TypeId) (E:α → TV) (l:List α)
end
end Go.Proofs.Ytgkkienmocpnbaa.Sh
