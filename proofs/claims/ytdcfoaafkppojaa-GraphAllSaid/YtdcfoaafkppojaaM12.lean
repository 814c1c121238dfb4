import Derived.Test.YtdcfoaafkppojaaM4
import Derived.Carry
import Derived.ChangeSame
import Derived.SizedLaws
import Derived.ChangeArms
import Derived.WideShapes
import Derived.Test.YtdcfoaafkppojaaTv9
set_option linter.unusedVariables false
set_option linter.unusedSimpArgs false
namespace Go.Proofs.Ytdcfoaafkppojaa.Sh
open Go Go.RowKit
def aq.none : aq := ⟨0,fun _ => .dead⟩
theorem Rep.none (W : World) : Rep W.heap.size W aq.none ⟨0,fun _ => ⟨0,0,0⟩⟩ W :=
 ⟨rfl,.refl _ _,Nat.le_refl _,fun i hi => absurd hi (Nat.not_lt_zero _),fun i j hi => absurd hi (Nat.not_lt_zero _)⟩
theorem zbn5 {P : Program} {f : FuncId} {args : List Value} {σ : aq} (h : nj P f args σ fun v _ => v = .bool true) {W : World} {m : Mp} {cargs : Array Value} (hr : Rep W.heap.size W σ m W)
 (hs : cargs.size = args.length) (hv : ∀ i,i < args.length → cq m (args.getD i undef) (cargs.getD i undef)) :
 Calls P f cargs W fun e W' => e = .returned (.bool true) ∧ Below W.heap.size W W' :=
 (h.2 _ _ m W cargs hr hs hv).mono fun e w' ⟨v,c,m',σ',h1,h2,h3,h4,h5⟩ => by
  subst h5
  rw [zchf h3] at h1
  exact ⟨h1,h4.below⟩
theorem zde0 {H : Type} {enc : TypeId × Value → H} {P : Program} {f : Func} {s : ChangeSpec} {apart : Bool} {W W' : World} {args : Array Value} {v : Value} {ds gs : List (DataW H)} {before : List MemPlace}
 (hl : laidOutB P = true) (hts : (f.params.toList.all fun t => P.readableRec t && decide (t < P.types.size)) = true)
 (hW : DataW.Whole enc P f.params.toList s.vars apart W args.toList ds gs before) (hb : Below W.heap.size W W') (hsv : s.vars = [])
 (hfa : gs = [] → (s.fn H ds).args = ds) (hfv : gs = [] → (s.fn H ds).vars = [])
 (hres : gs = [] → DataW.TrodAll enc P W' W.heap.size (fun _ => false) false f.resultTypes.toList (v.resultList f.resultTypes.size) (s.fn H ds).results []) :
 s.post enc P f apart true false false W args v W' := by
 have hW' := hW
 obtain ⟨p,q,hA,hV,rfl,hfz,hnd⟩ := hW
 rw [hsv] at hV
 have hg : gs = [] ∧ q = [] := by
  cases gs with
  | nil => exact ⟨rfl,hV⟩
  | cons => exact hV.elim
 obtain ⟨rfl,rfl⟩ := hg
 have hlt := hA.lt
 refine ⟨ds,[],p ++ [],[],p,[],hW',?_,?_,?_,zdb6 hb _,fun h => by cases h⟩
 · rw [List.append_nil]; exact hres rfl
 · rw [List.append_nil,hfa rfl]
   exact zcuw hl hb _ _ _ _ hts hA hlt
 · rw [List.append_nil,hfv rfl,hsv]
   rfl
open Go Go.RowKit Go.WideShapes
theorem zcl1 : reachBytes = 140737488351232 := by decide
theorem Rep.pushRo {W : World} {σ : aq} {m : Mp} (h : Rep W.heap.size W σ m W) (t : TypeId) (cs : List Value) (b off room : Nat) {c : Array Value} {t' : TypeId} {fz : Nat × Nat} (hb : W.heap[b]? = some (.cells c t' fz))
 (hc : ∀ j,j < cs.length → off + j < c.size ∧ cq m (cs.getD j undef) (c.getD (off + j) undef) ∧ scalar (cs.getD j undef) = true) :
 Rep W.heap.size W (σ.push (.cells t cs .ro)) (m.push ⟨b,off,room⟩) W where
 next := by simp [Mp.push,aq.push,h.next]
 below := h.below
 base := h.base
 blk := fun i hi => by
  have hi' : i < σ.next + 1 := hi
  by_cases e : i = σ.next
  · have e1 : (m.push ⟨b,off,room⟩).l i = ⟨b,off,room⟩ := by simp [Mp.push,h.next,e]
    have e2 : (σ.push (.cells t cs .ro)).blk i = .cells t cs .ro := by simp [aq.push,e]
    rw [e1,e2]
    exact ⟨c,t',fz,hb,fun j hj => ⟨(hc j hj).1,((hc j hj).2.1).mono (m.le_push _),(hc j hj).2.2⟩,fun e => (e rfl).elim⟩
  · have e1 : (m.push ⟨b,off,room⟩).l i = m.l i := by simp [Mp.push,h.next,e]
    have e2 : (σ.push (.cells t cs .ro)).blk i = σ.blk i := by simp [aq.push,e]
    rw [e1,e2]
    exact (h.blk i (by omega)).mono (m.le_push _)
 apart := fun i j hi hj hij hrw hlv => by
  have hi' : i < σ.next + 1 := hi
  exfalso
  simp only [aq.push] at hrw
  by_cases e : i = σ.next
  · rw [if_pos e] at hrw; cases hrw
  · rw [if_neg e] at hrw
    have hb' := h.blk i (by omega)
    cases hq : σ.blk i with
    | dead => rw [hq] at hrw; cases hrw
    | cells t2 cs2 rw2 =>
     rw [hq] at hrw hb'
     obtain ⟨c2,t3,fz2,g1,_,g3⟩ := hb'
     have := (g3 (by rintro rfl; cases hrw)).1
     have := (Array.getElem?_eq_some_iff.1 g1).1
     omega
    | map es =>
     rw [hq] at hb'
     obtain ⟨g1,ents,clock,g2,_⟩ := hb'
     have := (Array.getElem?_eq_some_iff.1 g2).1
     omega
class Arg (α : Type) where
 sz : Nat
 fits : Program → TypeId → Bool
 rel : aq → List Value → α → Prop
 ok : α → Prop
 agg : Bool := false
structure zbyh {α : Type} [Arg α] (W : World) (σ : aq) (m : Mp) (cs : List Value) (a : α) (vs : List Value) (σ' : aq) (m' : Mp) : Prop where
 le : σ.le σ'
 mle : m.le m'
 rep : Rep W.heap.size W σ' m' W
 len : vs.length = Arg.sz α
 clen : cs.length = Arg.sz α
 vals : ∀ j,j < vs.length → cq m' (vs.getD j undef) (cs.getD j undef) ∧ scalar (vs.getD j undef) = true
 rel : Arg.rel σ' vs a
 ok : Arg.ok a
class ArgL (α : Type) [Arg α] : Prop where
 mono : ∀ {σ σ' : aq} {vs : List Value} {a : α},σ.le σ' → Arg.rel σ vs a → Arg.rel σ' vs a
 size : ∀ {P : Program} {t : TypeId},Arg.fits α P t = true → P.cellsOf t = Arg.sz α
 form : ∀ {P : Program} {t : TypeId} {W : World} {r : Reach} {base : Nat} {v : Value},Arg.fits α P t = true → Value.okWide P W r base t v → v = bif Arg.agg α then .agg v.cells else v.cells.getD 0 undef
 imp : ∀ {P : Program} {H : Type} {enc : TypeId × Value → H} {W : World} {fuel : Nat} {t : TypeId} {cs : List Value} {x : DataW H × List MemPlace},Arg.fits α P t = true →
  DataW.trod enc P W 0 (fun _ => true) true fuel t cs = some x → (∀ n ∈ x.1.weights P t,n ≤ reachBytes) → ∀ (σ : aq) (m : Mp),Rep W.heap.size W σ m W → ∃ (a : α) (vs : List Value) (σ' : aq) (m' : Mp),zbyh W σ m cs a vs σ' m'
theorem zb6p {m : Mp} {v c : Value} (h : cq m v c) (hs : scalar v = true) : ∀ j,j < [v].length → cq m ([v].getD j undef) ([c].getD j undef) ∧ scalar ([v].getD j undef) = true := fun j hj => by
 obtain rfl : j = 0 := by simpa using hj
 exact ⟨h,hs⟩
theorem zcaw {P : Program} {t : TypeId} (n : Nat) (h : szT P t = some n) : P.cellsOf t = n := by
 unfold szT at h
 cases hi : P.info? t with
 | none => rw [hi] at h; cases h
 | some i => rw [hi] at h; injection h with h; simp [Program.cellsOf,hi,h]
def zb3m (k : IntKind) (P : Program) (t : TypeId) : Bool := (match P.underlying t with | some (.int k') => k' == k | _ => false) && szT P t == some 1
instance : Arg Int where
 sz := 1
 fits := zb3m .i64
 rel := fun _ vs n => vs = [.int .i64 n]
 ok := fun n => -9223372036854775808 ≤ n ∧ n ≤ 9223372036854775807
theorem zce3 {k : IntKind} {P : Program} {t : TypeId} (h : zb3m k P t = true) : P.underlying t = some (.int k) ∧ P.cellsOf t = 1 := by
 unfold zb3m at h
 simp only [Bool.and_eq_true,beq_iff_eq] at h
 refine ⟨?_,zcaw 1 h.2⟩
 have h1 := h.1
 split at h1
 · rename_i k' e; rw [e,show k' = k by simpa using h1]
 · cases h1
theorem zb7l {n : Int} (h : (Lit.int .i64 n).wf = true) : -9223372036854775808 ≤ n ∧ n ≤ 9223372036854775807 := by
 have e1 : IntKind.i64.min = -9223372036854775808 := by decide
 have e2 : IntKind.i64.max = 9223372036854775807 := by decide
 simp only [Lit.wf,e1,e2,Bool.and_eq_true,decide_eq_true_eq] at h
 exact h
instance : ArgL Int where
 mono := fun _ h => h
 size := fun h => (zce3 h).2
 form := fun hf hv => by obtain ⟨n,rfl⟩ := okWide_int (zce3 hf).1 hv; rfl
 imp := fun {P H enc W fuel t cs x} hf hx hw σ m hr => by
  obtain ⟨n,rfl,rfl,hwf⟩ := DataW.trod_int (zce3 hf).1 hx
  exact ⟨n,[.int .i64 n],σ,m,.refl _,.refl _,hr,rfl,rfl,zb6p (.int _ _) rfl,rfl,zb7l hwf⟩
def isT (p : TypeDesc → Bool) (n : Nat) (P : Program) (t : TypeId) : Bool := (match P.underlying t with | some d => p d | none => false) && szT P t == some n
theorem zccx {p : TypeDesc → Bool} {n : Nat} {P : Program} {t : TypeId} (h : isT p n P t = true) : (∃ d,P.underlying t = some d ∧ p d = true) ∧ P.cellsOf t = n := by
 unfold isT at h
 simp only [Bool.and_eq_true,beq_iff_eq] at h
 refine ⟨?_,zcaw n h.2⟩
 have h1 := h.1
 split at h1
 · rename_i d e; exact ⟨d,e,h1⟩
 · cases h1
def zch1 : TypeDesc → Bool | .string => true | _ => false
instance : Arg ByteArray where
 sz := 1
 fits := isT zch1 1
 rel := fun _ vs s => vs = [.string s]
 ok := fun s => s.size ≤ 140737488351232
instance : ArgL ByteArray where
 mono := fun _ h => h
 size := fun h => (zccx h).2
 form := fun hf hv => by
  obtain ⟨d,hd,hp⟩ := (zccx hf).1
  have e : d = .string := by cases d <;> first | rfl | cases hp
  subst e
  obtain ⟨n,rfl⟩ := okWide_string hd hv; rfl
 imp := fun {P H enc W fuel t cs x} hf hx hw σ m hr => by
  obtain ⟨d,hd,hp⟩ := (zccx hf).1
  have e : d = .string := by cases d <;> first | rfl | cases hp
  subst e
  obtain ⟨s,rfl,rfl,hs⟩ := DataW.trod_string hd hx
  refine ⟨s,[.string s],σ,m,.refl _,.refl _,hr,rfl,rfl,zb6p (.string _) rfl,rfl,?_⟩
  have := hw s.data.toList.length (by simp [DataW.weights])
  rw [zcl1] at this
  show s.size ≤ 140737488351232
  simpa using this
def zb98 {α : Type} [Arg α] (σ : aq) (vs : List Value) (l : List α) : Prop :=
 (vs = [.slice none 0 0] ∧ l = []) ∨ ∃ g off,vs = [.slice (some ⟨g,off,none⟩) l.length (Arg.sz α)] ∧
  (l ≠ [] → ∃ t cs,σ.at g = .cells t cs .ro ∧ off + l.length * Arg.sz α ≤ cs.length ∧ ∀ i (h : i < l.length),Arg.rel σ ((cs.drop (off + i * Arg.sz α)).take (Arg.sz α)) l[i])
def zbqh (P : Program) (t : TypeId) : Option TypeId := match P.underlying t with | some (.slice e) => some e | _ => none
instance {α : Type} [Arg α] : Arg (List α) where
 sz := 1
 fits := fun P t => (match zbqh P t with | some e => Arg.fits α P e && decide (1 ≤ P.bytesOf e) | none => false) && szT P t == some 1 && decide (1 ≤ Arg.sz α)
 rel := zb98
 ok := fun l => l.length ≤ 140737488351232 ∧ ∀ x ∈ l,Arg.ok x
theorem zcxn {H : Type} {P : Program} {e : TypeId} : ∀ {ds : List (DataW H)} {d : DataW H},d ∈ ds → ∀ n ∈ d.weights P e,n ∈ DataW.weightsAll P e ds
 | d0 :: ds,d,hd,n,hn => by
  simp only [DataW.weightsAll,List.mem_append]
  rcases List.mem_cons.1 hd with rfl | hd
  · exact .inl hn
  · exact .inr (zcxn hd n hn)
theorem zcj4 {α : Type} [Arg α] [ArgL α] {P : Program} {H : Type} {enc : TypeId × Value → H} {W : World} {fuel : Nat} {e : TypeId} (hf : Arg.fits α P e = true) (b off : Nat) {c : Array Value} {t' : TypeId} {fz : Nat × Nat}
 (hb : W.heap[b]? = some (.cells c t' fz)) (xs : List (DataW H × List MemPlace)) (hw : ∀ x ∈ xs,∀ n ∈ x.1.weights P e,n ≤ reachBytes) : ∀ (len : Nat),len ≤ xs.length →
 (∀ i,i < len → ∃ ci,DataW.trod enc P W 0 (fun _ => true) true fuel e ci = xs[i]? ∧ ∀ j,j < Arg.sz α → c[off + i * Arg.sz α + j]? = ci[j]?) →
 ∀ (σ : aq) (m : Mp),Rep W.heap.size W σ m W → ∃ (as : List α) (vs : List Value) (σ' : aq) (m' : Mp),σ.le σ' ∧ m.le m' ∧ Rep W.heap.size W σ' m' W ∧ as.length = len ∧ vs.length = len * Arg.sz α ∧
  (∀ j,j < vs.length → off + j < c.size ∧ cq m' (vs.getD j undef) (c.getD (off + j) undef) ∧ scalar (vs.getD j undef) = true) ∧
  (∀ i (h : i < as.length),Arg.rel σ' ((vs.drop (i * Arg.sz α)).take (Arg.sz α)) as[i]) ∧ ∀ x ∈ as,Arg.ok x
 | 0,_,_,σ,m,hr => ⟨[],[],σ,m,.refl _,.refl _,hr,rfl,by simp,fun j hj => by simp at hj,fun i h => by simp at h,fun x hx => by simp at hx⟩
 | len + 1,hl,hall,σ,m,hr => by
  obtain ⟨as,vs,σ1,m1,a1,a2,a3,a4,a5,a6,a7,a8⟩ := zcj4 hf b off hb xs hw len (by omega) (fun i hi => hall i (by omega)) σ m hr
  obtain ⟨ci,hci,hcj⟩ := hall len (by omega)
  have hx : xs[len]? = some xs[len] := List.getElem?_eq_getElem (by omega)
  rw [hx] at hci
  obtain ⟨a,ws,σ2,m2,i1,i2,i3,i4,i4',i5,i6,i7⟩ := ArgL.imp (α := α) hf hci (hw _ (List.getElem_mem (by omega))) σ1 m1 a3
  refine ⟨as ++ [a],vs ++ ws,σ2,m2,a1.trans i1,a2.trans i2,i3,by simp [a4],by rw [List.length_append,a5,i4,Nat.succ_mul],?_,?_,?_⟩
  · intro j hj
    by_cases hjl : j < vs.length
    · obtain ⟨b1,b2,b3⟩ := a6 j hjl
      have e : (vs ++ ws).getD j undef = vs.getD j undef := by simp [List.getD_eq_getElem?_getD,List.getElem?_append_left hjl]
      rw [e]
      exact ⟨b1,b2.mono i2,b3⟩
    · have hj2 : j - vs.length < ws.length := by rw [List.length_append] at hj; omega
      have e : (vs ++ ws).getD j undef = ws.getD (j - vs.length) undef := by simp [List.getD_eq_getElem?_getD,List.getElem?_append_right (show vs.length ≤ j by omega)]
      obtain ⟨b2,b3⟩ := i5 (j - vs.length) hj2
      have q := hcj (j - vs.length) (by rw [← i4]; exact hj2)
      have e2 : off + len * Arg.sz α + (j - vs.length) = off + j := by rw [← a5]; omega
      rw [e2] at q
      have hcl : j - vs.length < ci.length := by rw [i4',← i4]; exact hj2
      rw [List.getElem?_eq_getElem hcl] at q
      obtain ⟨q1,q2⟩ := Array.getElem?_eq_some_iff.1 q
      rw [e]
      refine ⟨q1,?_,b3⟩
      have e3 : c.getD (off + j) undef = ci.getD (j - vs.length) undef := by simp [Array.getD,q1,q2,List.getD_eq_getElem?_getD,List.getElem?_eq_getElem hcl]
      rw [e3]
      exact b2
  · intro i hi
    by_cases hil : i < as.length
    · have e : (as ++ [a])[i] = as[i] := List.getElem_append_left hil
      rw [e]
      have q := ArgL.mono i1 (a7 i hil)
      have e1 : i * Arg.sz α + Arg.sz α ≤ vs.length := by rw [a5,← Nat.succ_mul]; exact Nat.mul_le_mul_right _ (by omega)
      have : ((vs ++ ws).drop (i * Arg.sz α)).take (Arg.sz α) = (vs.drop (i * Arg.sz α)).take (Arg.sz α) := by
       rw [List.drop_append_of_le_length (by omega),List.take_append_of_le_length (by rw [List.length_drop]; omega)]
      rw [this]
      exact q
    · have hie : i = as.length := by simp at hi; omega
      subst hie
      have e : (as ++ [a])[as.length] = a := by simp
      rw [e]
      have : ((vs ++ ws).drop (as.length * Arg.sz α)).take (Arg.sz α) = ws := by
       rw [a4,← a5,List.drop_left,← i4,List.take_length]
      rw [this]
      exact i6
  · intro x hx
    rcases List.mem_append.1 hx with hx | hx
    · exact a8 x hx
    · rw [List.mem_singleton.1 hx]; exact i7
theorem zbne {α : Type} [Arg α] [ArgL α] {σ σ' : aq} {vs : List Value} {l : List α} (hle : σ.le σ') (h : zb98 σ vs l) : zb98 σ' vs l := by
 rcases h with h | ⟨g,off,h1,h2⟩
 · exact .inl h
 · refine .inr ⟨g,off,h1,fun hne => ?_⟩
   obtain ⟨t,cs,b1,b2,b3⟩ := h2 hne
   have hlt : g < σ.next := aq.lt_of_at (by rw [b1]; rfl)
   exact ⟨t,cs,by rw [hle.at_ hlt]; exact b1,b2,fun i hi => ArgL.mono hle (b3 i hi)⟩
instance {α : Type} [Arg α] [ArgL α] : ArgL (List α) where
 mono := zbne
 form := fun {P t W r base v} hf hv => by
  simp only [Arg.fits,Bool.and_eq_true,beq_iff_eq,decide_eq_true_eq] at hf
  have hf := hf.1.1
  unfold zbqh at hf
  split at hf
  · rename_i e he
    split at he
    · rename_i e' hu
      obtain ⟨a,n,k,rfl⟩ := okWide_slice hu hv
      rfl
    · cases he
  · cases hf
 size := fun h => by
  simp only [Arg.fits,Bool.and_eq_true,beq_iff_eq] at h
  exact zcaw 1 h.1.2
 imp := fun {P H enc W fuel t cs x} hf hx hw σ m hr => by
  simp only [Arg.fits,Bool.and_eq_true,beq_iff_eq,decide_eq_true_eq] at hf
  obtain ⟨⟨hf,hsz⟩,hpos⟩ := hf
  unfold zbqh at hf
  split at hf
  · rename_i e he
    split at he
    · rename_i e' hu
      injection he with he
      subst he
      rw [Bool.and_eq_true] at hf
      obtain ⟨hf,hby⟩ := hf
      have hby : 1 ≤ P.bytesOf e' := by simpa using hby
      rcases DataW.trod_slice hu hx with ⟨rfl,rfl⟩ | ⟨a,len,cap,elems,rest,n,rfl,rfl,rfl,_,hlc,_,hel,hei,hre,_⟩
      · exact ⟨[],[.slice none 0 0],σ,m,.refl _,.refl _,hr,rfl,rfl,zb6p .nilS rfl,.inl ⟨rfl,rfl⟩,by simp,fun x hx => by simp at hx⟩
      · have hlen : len ≤ 140737488351232 := by
         have := hw ((elems.map (·.1)).length + (rest.map (·.1)).length |> (· * P.bytesOf e')) (by simp [DataW.weights,hu])
         rw [zcl1] at this
         simp only [List.length_map,hel] at this
         have h3 : len * 1 ≤ (len + rest.length) * P.bytesOf e' := Nat.mul_le_mul (by omega) hby
         omega
        have hsize := ArgL.size (α := α) hf
        by_cases hc0 : cap = 0
        · subst hc0
          obtain rfl : len = 0 := by omega
          exact ⟨[],[.slice (some ⟨0,0,none⟩) 0 (Arg.sz α)],σ,m,.refl _,.refl _,hr,rfl,rfl,zb6p (.sliceE _ _ _ _) rfl,.inr ⟨0,0,rfl,fun h => (h rfl).elim⟩,by simp,fun x hx => by simp at hx⟩
        · obtain ⟨hrl,hri⟩ := hre rfl
          -- the first cell is there
          have hfirst : ∃ ci,W.cells? 0 a (P.cellsOf e') = some ci := by
           by_cases hl0 : 0 < len
           · have := hei 0 hl0
             rw [List.getElem?_eq_getElem (by omega)] at this
             obtain ⟨ci,h1,_⟩ := Option.bind_eq_some_iff.1 this
             exact ⟨ci,by simpa [Addr.add] using h1⟩
           · obtain rfl : len = 0 := by omega
             have := hri 0 (by omega)
             rw [List.getElem?_eq_getElem (by omega)] at this
             obtain ⟨ci,h1,_⟩ := Option.bind_eq_some_iff.1 this
             exact ⟨ci,by simpa [Addr.add] using h1⟩
          obtain ⟨ci0,hci0⟩ := hfirst
          obtain ⟨_,hl0,hcell0⟩ := World.cells?_some hci0
          have h00 := hcell0 0 (by omega)
          rw [List.getElem?_eq_getElem (by omega)] at h00
          have ha0 : a.add 0 = a := rfl
          rw [ha0] at h00
          unfold World.cell? at h00
          split at h00
          · rename_i c t' fz hb
            split at h00
            · cases h00
            · rename_i hspot
              obtain ⟨ab,ao,asp⟩ := a
              have hsp : asp = none := by cases asp <;> simp_all
              subst hsp
              have hrow : ∀ i,i < len → ∃ ci,DataW.trod enc P W 0 (fun _ => true) true n e' ci = elems[i]? ∧ ∀ j,j < Arg.sz α → c[ao + i * Arg.sz α + j]? = ci[j]? := fun i hi => by
               have := hei i hi
               rw [List.getElem?_eq_getElem (by omega)] at this
               obtain ⟨ci,h1,h2⟩ := Option.bind_eq_some_iff.1 this
               refine ⟨ci,by rw [h2,List.getElem?_eq_getElem (by omega)],fun j hj => ?_⟩
               obtain ⟨_,_,hcell⟩ := World.cells?_some h1
               have := hcell j (by omega)
               rw [qm,qm,hsize] at this
               rw [← this]
               simp [World.cell?,hb]
              obtain ⟨as,vs,σ1,m1,a1,a2,a3,a4,a5,a6,a7,a8⟩ := zcj4 (α := α) hf ab ao hb elems (fun x hx k hk => hw k (by
               simp only [DataW.weights,hu,List.mem_cons,List.mem_append]
               exact .inr (.inl (zcxn (List.mem_map_of_mem hx) k hk)))) len (by omega) hrow σ m hr
              have hr2 := a3.pushRo e' vs ab ao (cap * Arg.sz α) hb a6
              refine ⟨as,[.slice (some ⟨σ1.next,0,none⟩) as.length (Arg.sz α)],_,_,a1.trans (σ1.le_push _),a2.trans (m1.le_push _),hr2,rfl,rfl,zb6p ?_ rfl,.inr ⟨σ1.next,0,rfl,fun _ => ?_⟩,by rw [a4]; exact hlen,a8⟩
              · have hn := a3.next
                have := cq.slice (m := m1.push ⟨ab,ao,cap * Arg.sz α⟩) σ1.next 0 as.length (Arg.sz α) cap (by simp [Mp.push,hn]) (by omega) (by simp [Mp.push,hn])
                rw [a4] at this ⊢
                simpa [Mp.push,hn] using this
              · refine ⟨e',vs,σ1.at_push_new _,by rw [a4,a5]; omega,fun i hi => ?_⟩
                rw [Nat.zero_add]
                exact ArgL.mono (σ1.le_push _) (a7 i hi)
          · cases h00
    · cases he
  · cases hf
class Flds (β : Type) where
 sz : Nat
 fits : Program → List Field → Nat → Bool
 rel : aq → List Value → β → Prop
 ok : β → Prop
instance : Flds Unit where
 sz := 0
 fits := fun _ fs _ => fs.isEmpty
 rel := fun _ vs _ => vs = []
 ok := fun _ => True
instance {α β : Type} [Arg α] [Flds β] : Flds (α × β) where
 sz := Arg.sz α + Flds.sz β
 fits := fun P fs off => match fs with | [] => false | f :: r => f.offset == off && Arg.fits α P f.type && Flds.fits β P r (off + Arg.sz α)
 rel := fun σ vs x => ∃ v1 v2,vs = v1 ++ v2 ∧ v1.length = Arg.sz α ∧ Arg.rel σ v1 x.1 ∧ Flds.rel σ v2 x.2
 ok := fun x => Arg.ok x.1 ∧ Flds.ok x.2
class FldsL (β : Type) [Flds β] : Prop where
 mono : ∀ {σ σ' : aq} {vs : List Value} {a : β},σ.le σ' → Flds.rel σ vs a → Flds.rel σ' vs a
 imp : ∀ {P : Program} {H : Type} {enc : TypeId × Value → H} {W : World} {fuel : Nat} {fs : List Field} {off : Nat} {cs : List Value} {xs : List (DataW H × List MemPlace)},Flds.fits β P fs off = true →
  (∀ (i : Nat) (f : Field),fs[i]? = some f → DataW.trod enc P W 0 (fun _ => true) true fuel f.type ((cs.drop f.offset).take (P.cellsOf f.type)) = xs[i]?) → xs.length = fs.length → off + Flds.sz β = cs.length →
  (∀ n ∈ DataW.weightsEach P (fs.map (·.type)) (xs.map (·.1)),n ≤ reachBytes) → ∀ (σ : aq) (m : Mp),Rep W.heap.size W σ m W → ∃ (a : β) (vs : List Value) (σ' : aq) (m' : Mp),
   σ.le σ' ∧ m.le m' ∧ Rep W.heap.size W σ' m' W ∧ vs.length = Flds.sz β ∧ (∀ j,j < vs.length → cq m' (vs.getD j undef) (cs.getD (off + j) undef) ∧ scalar (vs.getD j undef) = true) ∧ Flds.rel σ' vs a ∧ Flds.ok a
instance : FldsL Unit where
 mono := fun _ h => h
 imp := fun hf hx hl hs hw σ m hr => ⟨(),[],σ,m,.refl _,.refl _,hr,rfl,fun j hj => by simp at hj,rfl,trivial⟩
instance {α β : Type} [Arg α] [ArgL α] [Flds β] [FldsL β] : FldsL (α × β) where
 mono := fun hle ⟨v1,v2,h1,h2,h3,h4⟩ => ⟨v1,v2,h1,h2,ArgL.mono hle h3,FldsL.mono hle h4⟩
 imp := fun {P H enc W fuel fs off cs xs} hf hx hl hs hw σ m hr => by
  cases fs with
  | nil => cases hf
  | cons f r =>
   simp only [Flds.fits,Bool.and_eq_true,beq_iff_eq] at hf
   obtain ⟨⟨rfl,hf1⟩,hf2⟩ := hf
   have hs' : f.offset + (Arg.sz α + Flds.sz β) = cs.length := hs
   cases xs with
   | nil => simp at hl
   | cons x xr =>
    have h0 := hx 0 f rfl
    simp only [List.getElem?_cons_zero] at h0
    have hsz := ArgL.size (α := α) hf1
    obtain ⟨a,v1,σ1,m1,i1,i2,i3,i4,i4',i5,i6,i7⟩ := ArgL.imp (α := α) hf1 h0 (fun n hn => hw n (by simp only [List.map_cons,DataW.weightsEach,List.mem_append]; exact .inl hn)) σ m hr
    obtain ⟨b,v2,σ2,m2,j1,j2,j3,j4,j5,j6,j7⟩ := FldsL.imp (β := β) hf2 (fun i g hg => by have := hx (i + 1) g (by simpa using hg); simpa using this) (by simpa using hl) (by omega)
     (fun n hn => hw n (by simp only [List.map_cons,DataW.weightsEach,List.mem_append]; exact .inr hn)) σ1 m1 i3
    refine ⟨(a,b),v1 ++ v2,σ2,m2,i1.trans j1,i2.trans j2,j3,by rw [List.length_append,i4,j4]; rfl,?_,⟨v1,v2,rfl,i4,ArgL.mono j1 i6,j6⟩,i7,j7⟩
    intro j hj
    by_cases hjl : j < v1.length
    · obtain ⟨q1,q2⟩ := i5 j hjl
      have e : (v1 ++ v2).getD j undef = v1.getD j undef := by simp [List.getD_eq_getElem?_getD,List.getElem?_append_left hjl]
      have e2 : ((cs.drop f.offset).take (P.cellsOf f.type)).getD j undef = cs.getD (f.offset + j) undef := by
       rw [hsz]
       have : j < Arg.sz α := by omega
       simp [List.getD_eq_getElem?_getD,this,List.getElem?_drop]
      rw [e,← e2]
      exact ⟨q1.mono j2,q2⟩
    · obtain ⟨q1,q2⟩ := j5 (j - v1.length) (by rw [List.length_append] at hj; omega)
      have e : (v1 ++ v2).getD j undef = v2.getD (j - v1.length) undef := by simp [List.getD_eq_getElem?_getD,List.getElem?_append_right (show v1.length ≤ j by omega)]
      have e2 : f.offset + Arg.sz α + (j - v1.length) = f.offset + j := by omega
      rw [e2] at q1
      rw [e]
      exact ⟨q1,q2⟩
structure Rec (β : Type) where
 val : β
def zb8c (P : Program) (t : TypeId) : Option (List Field) := match P.underlying t with | some (.struct fs) => some fs.toList | _ => none
instance {β : Type} [Flds β] : Arg (Rec β) where
 sz := Flds.sz β
 fits := fun P t => (match zb8c P t with | some fs => Flds.fits β P fs 0 | none => false) && szT P t == some (Flds.sz β)
 rel := fun σ vs x => Flds.rel σ vs x.val
 ok := fun x => Flds.ok x.val
 agg := true
theorem zccn {β : Type} [Flds β] {P : Program} {t : TypeId} (h : Arg.fits (Rec β) P t = true) : (∃ fs : Array Field,P.underlying t = some (.struct fs) ∧ Flds.fits β P fs.toList 0 = true) ∧ P.cellsOf t = Flds.sz β := by
 simp only [Arg.fits,Bool.and_eq_true,beq_iff_eq] at h
 refine ⟨?_,zcaw _ h.2⟩
 have h1 := h.1
 unfold zb8c at h1
 split at h1
 · rename_i fs e
   split at e
   · rename_i fs' e'
     injection e with e
     subst e
     exact ⟨fs',e',h1⟩
   · cases e
 · cases h1
instance {β : Type} [Flds β] [FldsL β] : ArgL (Rec β) where
 mono := fun hle h => FldsL.mono (β := β) hle h
 size := fun h => (zccn h).2
 form := fun hf hv => by
  obtain ⟨⟨fs,hu,_⟩,_⟩ := zccn hf
  obtain ⟨cs,rfl,_⟩ := okWide_struct hu hv
  rfl
 imp := fun {P H enc W fuel t cs x} hf hx hw σ m hr => by
  obtain ⟨⟨fs,hu,hff⟩,hc⟩ := zccn hf
  obtain ⟨xs,n,rfl,rfl,hl,hxl,hi⟩ := DataW.trod_struct hu hx
  obtain ⟨b,vs,σ',m',j1,j2,j3,j4,j5,j6,j7⟩ := FldsL.imp (β := β) hff (xs := xs) (cs := cs) (fun i f hf => hi i f (by simpa using hf)) (by simpa using hxl) (by rw [hl,hc,Nat.zero_add])
   (fun k hk => hw k (by simpa only [DataW.weights,hu] using hk)) σ m hr
  exact ⟨⟨b⟩,vs,σ',m',j1,j2,j3,j4,by rw [hl,hc]; rfl,fun j hj => by have := j5 j hj; rwa [Nat.zero_add] at this,j6,j7⟩
def toV (α : Type) [Arg α] (vs : List Value) : Value := bif Arg.agg α then .agg vs.toArray else vs.getD 0 undef
def zb9x {α : Type} [Arg α] (σ : aq) (v : Value) (a : α) : Prop := ∃ vs,v = toV α vs ∧ vs.length = Arg.sz α ∧ Arg.rel σ vs a
theorem zb9x.mono {α : Type} [Arg α] [ArgL α] {σ σ' : aq} {v : Value} {a : α} (hle : σ.le σ') (h : zb9x σ v a) : zb9x σ' v a :=
 let ⟨vs,h1,h2,h3⟩ := h
 ⟨vs,h1,h2,ArgL.mono hle h3⟩
theorem zcg9 {H : Type} {P : Program} {ts : List TypeId} {ds : List (DataW H)} (h : (DataW.weightsEach P ts ds).all (· ≤ reachBytes) = true) {j : Nat} {t : TypeId} {d : DataW H} (ht : ts[j]? = some t) (hd : ds[j]? = some d) : ∀ n ∈ d.weights P t,n ≤ reachBytes :=
 fun n hn => by simpa using List.all_eq_true.1 h n (DataW.weights_mem_each ht hd n hn)
theorem zbu2 {α : Type} [Arg α] [ArgL α] {P : Program} {H : Type} {enc : TypeId × Value → H} {W : World} {t : TypeId} {v : Value} {d : DataW H} {ps : List MemPlace} {r : Reach} {base : Nat} (hf : Arg.fits α P t = true) (hv : Value.okWide P W r base t v)
 (hd : DataW.Trod enc P W 0 (fun _ => true) true t v d ps) (hw : ∀ n ∈ d.weights P t,n ≤ reachBytes) {σ : aq} {m : Mp} (hr : Rep W.heap.size W σ m W) :
 ∃ (a : α) (v' : Value) (σ' : aq) (m' : Mp),σ.le σ' ∧ m.le m' ∧ Rep W.heap.size W σ' m' W ∧ cq m' v' v ∧ zb9x σ' v' a ∧ Arg.ok a := by
 obtain ⟨fuel,hx⟩ := hd
 obtain ⟨a,vs,σ',m',i1,i2,i3,i4,i4',i5,i6,i7⟩ := ArgL.imp (α := α) hf hx hw σ m hr
 refine ⟨a,toV α vs,σ',m',i1,i2,i3,?_,⟨vs,rfl,i4,i6⟩,i7⟩
 have hform := ArgL.form (α := α) hf hv
 have hcl : v.cells.size = Arg.sz α := by simpa using i4'
 unfold toV
 cases hag : Arg.agg α
 · rw [hag] at hform
   simp only [cond_false] at hform ⊢
   rw [hform]
   by_cases h0 : 0 < vs.length
   · have := (i5 0 h0).1
     simpa [List.getD_eq_getElem?_getD,Array.getD_eq_getD_getElem?] using this
   · have e1 : vs = [] := by cases vs with | nil => rfl | cons => simp at h0
     have e2 : v.cells.size = 0 := by rw [hcl,← i4,e1]; rfl
     have e3 : v.cells.getD 0 undef = undef := by simp [Array.getD,e2]
     rw [e1,e3]
     exact .undef _
 · rw [hag] at hform
   simp only [cond_true] at hform ⊢
   rw [hform]
   refine .agg _ _ (by simp [i4,hcl]) fun j hj => ?_
   have := (i5 j (by simpa using hj)).1
   rw [cn]
   simpa [List.getD_eq_getElem?_getD,Array.getD_eq_getD_getElem?] using this
open Go Go.RowKit
class ArgT (α : Type) [Arg α] where
 enc : α → TV
 pos : 0 < Arg.sz α
 form : Arg.agg α = false → ∀ a,(enc a).cells = [enc a]
 agg : Arg.agg α = true → ∀ a,enc a = .agg (enc a).cells
 rel : ∀ {σ : aq} {vs : List Value} {a : α},Arg.rel σ vs a → vs.length = Arg.sz α → (enc a).cells.length = Arg.sz α ∧ ∀ j,j < Arg.sz α → PR σ ((enc a).cells.getD j .undef) (vs.getD j undef)
open ArgT (enc)
theorem zchc {σ : aq} {v : TV} {w : Value} (hc : v.cells = [v]) (h : PR σ v w) : v.cells.length = 1 ∧ ∀ j,j < 1 → PR σ (v.cells.getD j .undef) ([w].getD j undef) := by
 rw [hc]
 refine ⟨rfl,fun j hj => ?_⟩
 obtain rfl : j = 0 := by omega
 exact h
instance : ArgT Int where
 enc n := .int .i64 n
 pos := Nat.one_pos
 form _ _ := rfl
 agg h := by cases h
 rel h _ := by
  have h : _ = [Value.int .i64 _] := h
  rw [h]; exact zchc rfl (.int _ _)
instance : ArgT ByteArray where
 enc s := .str s
 pos := Nat.one_pos
 form _ _ := rfl
 agg h := by cases h
 rel h _ := by
  have h : _ = [Value.string _] := h
  rw [h]; exact zchc rfl (.str _)
theorem zcjv {α : Type} [Arg α] [ArgT α] (l : List α) (i : Nat) (h : i < l.length) : (l.map enc).getD i .undef = enc l[i] := by
 simp only [List.getD_eq_getElem?_getD,List.getElem?_map,List.getElem?_eq_getElem h,Option.map_some,Option.getD_some]
theorem zbxf {α : Type} [Arg α] [ArgT α] {σ : aq} {v : Value} {l : List α} (h : zb98 σ [v] l) : PR σ (.sl (l.map enc)) v := by
 rcases h with ⟨h,rfl⟩ | ⟨g,off,h,h2⟩
 · injection h with h; subst h; exact .slN
 · injection h with h
   subst h
   by_cases hne : l = []
   · subst hne; exact .slE _ _
   · obtain ⟨t,cs,b1,b2,b3⟩ := h2 hne
     have hp := ArgT.pos (α := α)
     have e : ∀ i (hi : i < l.length),(enc l[i]).cells.length = Arg.sz α ∧ ∀ j,j < Arg.sz α → PR σ ((enc l[i]).cells.getD j .undef) (((cs.drop (off + i * Arg.sz α)).take (Arg.sz α)).getD j undef) := fun i hi => by
      refine ArgT.rel (b3 i hi) ?_
      have : i * Arg.sz α + Arg.sz α ≤ l.length * Arg.sz α := by rw [← Nat.succ_mul]; exact Nat.mul_le_mul_right _ hi
      simp; omega
     have := PR.sl (σ := σ) (l.map enc) g off (Arg.sz α) t cs .ro (by simpa using hne) (by omega) b1 (by simp) (by simpa using b2) (fun i hi => by
      have hi' : i < l.length := by simpa using hi
      rw [zcjv l i hi']; exact (e i hi').1) (fun i hi j hj => by
      have hi' : i < l.length := by simpa using hi
      rw [zcjv l i hi']
      have := (e i hi').2 j hj
      rwa [ek _ _ _ _ _ hj] at this)
     simpa using this
instance {α : Type} [Arg α] [ArgT α] : ArgT (List α) where
 enc l := .sl (l.map enc)
 pos := Nat.one_pos
 form _ _ := rfl
 agg h := by cases h
 rel {σ vs a} h hl := by
  have hl : vs.length = 1 := hl
  obtain ⟨v,rfl⟩ := List.length_eq_one_iff.1 hl
  exact zchc rfl (zbxf h)
class FldsT (β : Type) [Flds β] where
 encF : β → List TV
 rel : ∀ {σ : aq} {vs : List Value} {a : β},Flds.rel σ vs a → vs.length = Flds.sz β → (encF a).length = Flds.sz β ∧ ∀ j,j < Flds.sz β → PR σ ((encF a).getD j .undef) (vs.getD j undef)
instance : FldsT Unit where
 encF _ := []
 rel _ _ := ⟨rfl,fun j hj => absurd hj (Nat.not_lt_zero _)⟩
instance {α β : Type} [Arg α] [ArgT α] [Flds β] [FldsT β] : FldsT (α × β) where
 encF x := (enc x.1).cells ++ FldsT.encF x.2
 rel {σ vs a} h hl := by
  obtain ⟨v1,v2,rfl,h2,h3,h4⟩ := h
  have hl : (v1 ++ v2).length = Arg.sz α + Flds.sz β := hl
  obtain ⟨a1,a2⟩ := ArgT.rel h3 h2
  obtain ⟨b1,b2⟩ := FldsT.rel h4 (by rw [List.length_append] at hl; omega)
  refine ⟨by rw [List.length_append,a1,b1]; rfl,fun j hj => ?_⟩
  have hj : j < Arg.sz α + Flds.sz β := hj
  by_cases hlt : j < Arg.sz α
  · have e1 : ((enc a.1).cells ++ FldsT.encF a.2).getD j .undef = (enc a.1).cells.getD j .undef := by simp [List.getD_eq_getElem?_getD,List.getElem?_append_left (show j < (enc a.1).cells.length by omega)]
    have e2 : (v1 ++ v2).getD j undef = v1.getD j undef := by simp [List.getD_eq_getElem?_getD,List.getElem?_append_left (show j < v1.length by omega)]
    rw [e1,e2]; exact a2 j hlt
  · have e1 : ((enc a.1).cells ++ FldsT.encF a.2).getD j .undef = (FldsT.encF a.2).getD (j - Arg.sz α) .undef := by simp [List.getD_eq_getElem?_getD,List.getElem?_append_right (show (enc a.1).cells.length ≤ j by omega),a1]
    have e2 : (v1 ++ v2).getD j undef = v2.getD (j - Arg.sz α) undef := by simp [List.getD_eq_getElem?_getD,List.getElem?_append_right (show v1.length ≤ j by omega),h2]
    rw [e1,e2]; exact b2 _ (by omega)
instance {α β : Type} [Arg α] [ArgT α] [Flds β] [FldsT β] : ArgT (Rec (α × β)) where
 enc x := .agg (FldsT.encF x.val)
 pos := by
  have := ArgT.pos (α := α)
  show 0 < Arg.sz α + Flds.sz β
  omega
 form h := by cases h
 agg _ _ := rfl
 rel {σ vs a} h hl := FldsT.rel (β := α × β) h hl
theorem zccf {α : Type} [Arg α] [ArgT α] {σ : aq} {e : Env} {tk : TK} {v : Value} {a : α} (h : zb9x σ v a) : TR σ e tk (enc a) v := by
 obtain ⟨vs,rfl,h1,h2⟩ := h
 obtain ⟨r1,r2⟩ := ArgT.rel h2 h1
 unfold toV
 cases hag : Arg.agg α
 · have hf := ArgT.form hag a
   rw [hf] at r1 r2
   have := r2 0 (by simp at r1; omega)
   exact .pr this
 · rw [ArgT.agg hag a]
   refine .agg _ _ (by simp [r1,h1]) fun j hj => ?_
   have := r2 j (by rw [← r1]; exact hj)
   rw [cn]
   exact .pr this
theorem zcca {Γ : FuncId → Option TG} {f : FuncId} {g : List TV → TH → Option (TV × TH)} (hf : Γ f = some (.prim g)) {args : List TV} {τ : TH} {r : TV} {τ' : TH} (h : g args τ = some (r,τ')) : Ru Γ f args τ r τ' := by
 refine ⟨1,?_⟩
 show sr Γ (zbih Γ 0) f args τ = some (r,τ')
 simp only [sr,hf]
 exact h
def Lw (Γ : FuncId → Option TG) (f : FuncId) (args : List TV) : Prop := ∃ τ',Ru Γ f args ⟨[],0⟩ (.bool true) τ'
theorem zb8s {P : Program} {Γ : FuncId → Option TG} (hG : GOK P Γ) {f : FuncId} {args : List TV} (h : Lw Γ f args) {σ : aq} {ws : List Value} (hl : args.length = ws.length)
 (ha : ∀ i,i < args.length → TR σ ⟨fun _ => 0,0,fun _ => .none⟩ [] (args.getD i .undef) (ws.getD i undef)) : nj P f ws σ fun v _ => v = .bool true := by
 obtain ⟨τ',k,hk⟩ := h
 have := (zbux hG k).1 _ _ _ _ _ hk σ ⟨fun _ => 0,0,fun _ => .none⟩ ws ⟨rfl,fun g hg => absurd rfl hg,fun g id hg => (by rcases hg with hg | ⟨_,hg⟩ <;> cases hg),fun id hid => absurd hid (Nat.not_lt_zero _)⟩ (fun g i h => by cases h) hl ha
 exact this.mono fun v σ' ⟨e',_,h⟩ => zbm3 h
open Go Go.RowKit
theorem ob {α β : Type} {x : Option α} {f : α → Option β} {r : β} (h : (x >>= f) = some r) : ∃ a,x = some a ∧ f a = some r := Option.bind_eq_some_iff.1 h
inductive LX (α β : Type) where
 | ex (a : α)
 | rt (b : β)
inductive LS (σ ρ : Type) where
 | nx (s : σ)
 | dn (r : ρ)
def zbok {σ ρ : Type} (f : σ → Option (LS σ ρ)) : Nat → σ → Option ρ
 | 0,_ => none
 | n + 1,s => match f s with
  | some (.nx s') => zbok f n s'
  | some (.dn r) => some r
  | none => none
theorem zccy {σ ρ : Type} {f : σ → Option (LS σ ρ)} : ∀ {n m : Nat} {s : σ} {r : ρ},n ≤ m → zbok f n s = some r → zbok f m s = some r
 | 0,_,_,_,_,h => by cases h
 | n + 1,0,_,_,h,_ => by omega
 | n + 1,m + 1,s,r,hle,h => by
  simp only [zbok] at h ⊢
  cases hf : f s with
  | none => rw [hf] at h; cases h
  | some o =>
   rw [hf] at h
   cases o with
   | nx s' => exact zccy (by omega) h
   | dn r' => exact h
open Classical in
noncomputable def kx {σ ρ : Type} (f : σ → Option (LS σ ρ)) (s : σ) : Option ρ := if h : ∃ r n,zbok f n s = some r then some h.choose else none
theorem zb19 {σ ρ : Type} {f : σ → Option (LS σ ρ)} {s : σ} {r : ρ} : kx f s = some r ↔ ∃ n,zbok f n s = some r := by
 unfold kx
 constructor
 · intro h
   split at h
   · rename_i hx
     injection h with h
     obtain ⟨n,hn⟩ := hx.choose_spec
     exact ⟨n,by rw [hn,h]⟩
   · cases h
 · rintro ⟨n,hn⟩
   have hx : ∃ r n,zbok f n s = some r := ⟨r,n,hn⟩
   rw [dif_pos hx]
   obtain ⟨m,hm⟩ := hx.choose_spec
   have h1 := zccy (Nat.le_max_left n m) hn
   have h2 := zccy (Nat.le_max_right n m) hm
   rw [h1] at h2
   exact h2.symm
def LS.go {σ ρ : Type} (f : σ → Option ρ) : LS σ ρ → Option ρ
 | .nx s => f s
 | .dn r => some r
theorem bu {σ ρ : Type} (f : σ → Option (LS σ ρ)) (s : σ) : kx f s = f s >>= LS.go (kx f) := by
 cases hf : f s with
 | none =>
  cases h : kx f s with
  | none => rfl
  | some r =>
   obtain ⟨n,hn⟩ := zb19.1 h
   cases n with
   | zero => cases hn
   | succ n => simp only [zbok,hf] at hn; cases hn
 | some o =>
  cases o with
  | dn r => exact zb19.2 ⟨1,by simp only [zbok,hf]⟩
  | nx s' =>
   show kx f s = kx f s'
   cases h : kx f s' with
   | some r =>
    obtain ⟨n,hn⟩ := zb19.1 h
    exact zb19.2 ⟨n + 1,by simp only [zbok,hf]; exact hn⟩
   | none =>
    cases h2 : kx f s with
    | none => rfl
    | some r =>
     obtain ⟨n,hn⟩ := zb19.1 h2
     cases n with
     | zero => cases hn
     | succ n =>
      simp only [zbok,hf] at hn
      rw [zb19.2 ⟨n,hn⟩] at h
      cases h
theorem bf {σ ρ : Type} {f : σ → Option (LS σ ρ)} {P : σ → ρ → Prop} (h : ∀ s o,f s = some o → ∀ r,(match o with | .nx s' => P s' r | .dn r' => r' = r) → P s r) {s : σ} {r : ρ} (hr : kx f s = some r) : P s r := by
 obtain ⟨n,hn⟩ := zb19.1 hr
 clear hr
 induction n generalizing s with
 | zero => cases hn
 | succ n ih =>
  simp only [zbok] at hn
  cases hf : f s with
  | none => rw [hf] at hn; cases hn
  | some o =>
   rw [hf] at hn
   cases o with
   | nx s' => exact h s _ hf r (ih hn)
   | dn r' => injection hn with hn; exact h s _ hf r hn
def ixL {α : Type} (l : List α) (i : Int) : Option α := if 0 ≤ i then l[i.toNat]? else none
theorem aw {α : Type} {l : List α} {i : Int} {x : α} (h : ixL l i = some x) : 0 ≤ i ∧ i < (l.length : Int) ∧ ∀ (enc : α → TV),(l.map enc).getD i.toNat .undef = enc x ∧ (l.map enc)[i.toNat]? = some (enc x) := by
 unfold ixL at h
 split at h
 · rename_i h0
   obtain ⟨hlt,hx⟩ := List.getElem?_eq_some_iff.1 h
   refine ⟨h0,by omega,fun enc => ?_⟩
   have : (l.map enc)[i.toNat]? = some (enc x) := by rw [List.getElem?_map,h]; rfl
   exact ⟨by rw [List.getD_eq_getElem?_getD,this]; rfl,this⟩
 · cases h
theorem fj {α : Type} {l : List α} {i : Nat} (h : i < l.length) : ixL l (i : Int) = some l[i] := by
 unfold ixL
 rw [if_pos (by omega),Int.toNat_natCast,List.getElem?_eq_getElem h]
def ixB (s : ByteArray) (i : Int) : Option Int := if 0 ≤ i ∧ i < (s.size : Int) then some ((s.data.getD i.toNat 0).toNat : Int) else none
theorem zcab {s : ByteArray} {i x : Int} (h : ixB s i = some x) : 0 ≤ i ∧ i < (s.size : Int) ∧ ((s.data.getD i.toNat 0).toNat : Int) = x := by
 unfold ixB at h
 split at h
 · rename_i h0; injection h with h; exact ⟨h0.1,h0.2,h⟩
 · cases h
def zbmg (s : ByteArray) : List Int := s.data.toList.map fun b => (b.toNat : Int)
theorem zbuv (s : ByteArray) : ik s = (zbmg s).map (TV.int .u8) := by unfold ik zbmg; rw [List.map_map]; rfl
theorem ar (s : ByteArray) : (zbmg s).length = s.size := by unfold zbmg; rw [List.length_map]; rfl
def zbka (l : List Int) : ByteArray := ⟨(l.map fun n => UInt8.ofNat n.toNat).toArray⟩
theorem zcdk : ∀ l : List Int,zbmf (l.map (TV.int .u8)) = some (l.map fun n => UInt8.ofNat n.toNat)
 | [] => rfl
 | n :: r => by simp only [List.map_cons,zbmf,zcdk r,Option.map_some]
theorem zbzv (l : List Int) : (⟨(l.map fun n => UInt8.ofNat n.toNat).toArray⟩ : ByteArray) = zbka l := rfl
theorem zbmt {α : Type} {enc : α → TV} {n : Nat} (h : ∀ x,((enc x).cells.length == n) = true) (l : List α) : ((l.map enc).all fun e => e.cells.length == n) = true := by
 rw [List.all_map,List.all_eq_true]; intro x _; exact h x
theorem zbu3 {α : Type} {enc : α → TV} (l k : List α) : l.map enc ++ k.map enc = (l ++ k).map enc := by rw [List.map_append]
theorem zb23 {α : Type} {enc : α → TV} (l : List α) (i : Nat) (x : α) : (l.map enc).set i (enc x) = (l.set i x).map enc := by rw [List.map_set]
theorem zdg1 {α : Type} {enc : α → TV} {l : List α} (h : ¬ l = []) : (!(l.map enc).isEmpty) = true := by cases l with | nil => exact absurd rfl h | cons => rfl
theorem ux {τ : TH} {id : Nat} {b : Ob} (h : τ.at id = some b) : τ.put id b = τ := by
 unfold TH.put TH.at at *
 obtain ⟨hlt,hb⟩ := List.getElem?_eq_some_iff.1 h
 cases τ with
 | mk o lk =>
  simp only at *
  congr 1
  rw [← hb]
  exact List.set_getElem_self hlt
theorem zb3e {a b : Nat} (h : a ≠ b) (τ : TH) (x y : Ob) : (τ.put b y).put a x = (τ.put a x).put b y := by
 unfold TH.put
 simp only
 congr 1
 exact List.set_comm _ _ (Ne.symm h)
theorem zb11 {τ : TH} {m n : Nat} (h : n ≤ m) : (τ.cut m).cut n = τ.cut n := by unfold TH.cut; simp only [List.take_take,Nat.min_eq_left h]
theorem az {τ f : TH} {m n : Nat} (h : τ.cut m = f) (hn : n ≤ m) : τ.cut n = f.cut n := by rw [← h,zb11 hn]
theorem zb33 {τ : TH} {n id : Nat} {b : Ob} (h : id < n) : (τ.put id b).cut n = (τ.cut n).put id b := by
 unfold TH.cut TH.put
 simp only [List.take_set]
theorem zccj {α : Type} {enc : α → TV} (h : ∀ x n m,(enc x).lt n m = true) (n m : Nat) (l : List α) : ltL n m (List.map enc l) = true := by
 induction l with
 | nil => rfl
 | cons a r ih => simp only [List.map_cons,ltL,h,ih,Bool.and_self]
theorem zcc2 {α : Type} {enc : α → TV} (h : ∀ x n,(enc x).under n = true) (n : Nat) (l : List α) : iy n (List.map enc l) = true := by
 induction l with
 | nil => rfl
 | cons a r ih => simp only [List.map_cons,iy,h,ih,Bool.and_self]
theorem zccm {α : Type} {enc : α → TV} (h : ∀ x,(enc x).put = enc x) (l : List α) : List.map TV.put (List.map enc l) = List.map enc l := by
 rw [List.map_map]; congr 1; funext x; exact h x
theorem zbrh {α : Type} {enc : α → TV} (h : ∀ x,(enc x).rd = enc x) (l : List α) : List.map TV.rd (List.map enc l) = List.map enc l := by
 rw [List.map_map]; congr 1; funext x; exact h x
theorem zcgp {α : Type} {enc : α → TV} (h : ∀ x,(enc x).canS = enc x) (l : List α) : List.map TV.canS (List.map enc l) = List.map enc l := by
 rw [List.map_map]; congr 1; funext x; exact h x
theorem zcck {α : Type} {enc : α → TV} (h : ∀ x,(enc x).one = true) (l : List α) : (List.map enc l).all TV.one = true := by
 rw [List.all_map,List.all_eq_true]; intro x _; exact h x
theorem LTM : ((∀ k n m l,ltL n m (List.map (TV.int k) l) = true) ∧ (∀ k n l,iy n (List.map (TV.int k) l) = true) ∧ (∀ k l,List.map TV.put (List.map (TV.int k) l) = List.map (TV.int k) l) ∧ (∀ k l,List.map TV.rd (List.map (TV.int k) l) = List.map (TV.int k) l) ∧ (∀ k l,List.map TV.canS (List.map (TV.int k) l) = List.map (TV.int k) l) ∧ (∀ k l,(List.map (TV.int k) l).all TV.one = true)) ∧
 ((∀ n m l,ltL n m (List.map TV.bool l) = true) ∧ (∀ n l,iy n (List.map TV.bool l) = true) ∧ (∀ l,List.map TV.put (List.map TV.bool l) = List.map TV.bool l) ∧ (∀ l,List.map TV.rd (List.map TV.bool l) = List.map TV.bool l) ∧ (∀ l,List.map TV.canS (List.map TV.bool l) = List.map TV.bool l) ∧ (∀ l,(List.map TV.bool l).all TV.one = true)) ∧
 ((∀ n m l,ltL n m (List.map TV.str l) = true) ∧ (∀ n l,iy n (List.map TV.str l) = true) ∧ (∀ l,List.map TV.put (List.map TV.str l) = List.map TV.str l) ∧ (∀ l,List.map TV.rd (List.map TV.str l) = List.map TV.str l) ∧ (∀ l,List.map TV.canS (List.map TV.str l) = List.map TV.str l) ∧ (∀ l,(List.map TV.str l).all TV.one = true)) :=
 ⟨⟨fun k => zccj fun _ _ _ => by simp [TV.lt],fun k => zcc2 fun _ _ => by simp [TV.under],fun k => zccm fun _ => rfl,fun k => zbrh fun _ => rfl,fun k => zcgp fun _ => rfl,fun k => zcck fun _ => rfl⟩,
  ⟨zccj fun _ _ _ => by simp [TV.lt],zcc2 fun _ _ => by simp [TV.under],zccm fun _ => rfl,zbrh fun _ => rfl,zcgp fun _ => rfl,zcck fun _ => rfl⟩,
  ⟨zccj fun _ _ _ => by simp [TV.lt],zcc2 fun _ _ => by simp [TV.under],zccm fun _ => rfl,zbrh fun _ => rfl,zcgp fun _ => rfl,zcck fun _ => rfl⟩⟩
theorem zbpd : ∀ (vs cs pre : List TV),cs.length = vs.length → zbl4 (pre ++ cs) pre.length vs = pre ++ vs
 | [],cs,pre,h => by
  have : cs = [] := List.eq_nil_of_length_eq_zero h
  subst this; rfl
 | v :: r,[],pre,h => by cases h
 | v :: r,c :: cs,pre,h => by
  simp only [zbl4]
  have e : (pre ++ c :: cs).set pre.length v = (pre ++ [v]) ++ cs := by simp
  have := zbpd r cs (pre ++ [v]) (by simpa using h)
  rw [e]
  simp only [List.length_append,List.length_cons,List.length_nil,Nat.zero_add] at this
  rw [this]; simp
theorem br {α : Type} {enc : α → TV} {cs : List TV} {l : List α} (h : cs.length = l.length) : zbl4 cs 0 (List.map enc l) = List.map enc l := by
 have := zbpd (List.map enc l) cs [] (by simpa using h)
 simpa using this
theorem zb93 {α : Type} {enc : α → TV} {l : List α} {n : Nat} (h : l.length = n) (hn : 0 < n) : (List.map enc l = []) = False := by
 refine eq_false fun h2 => ?_
 have := congrArg List.length h2
 simp at this
 rw [this] at h
 simp at h; omega
theorem zcg0 {α : Type} {enc : α → TV} {l : List α} {n : Nat} (h : l.length = n) : List.take n (List.map enc l) = List.map enc l := by
 rw [List.take_of_length_le]; simp [h]
theorem zbx2 {α : Type} {enc : α → TV} (n : Nat) (x : α) : (List.replicate n [enc x]).flatten = List.map enc (List.replicate n x) := by
 rw [List.map_replicate]
 induction n with
 | zero => rfl
 | succ n ih => rw [List.replicate_succ,List.flatten_cons,ih,List.replicate_succ]; rfl
theorem av {Γ : FuncId → Option TG} {lk : Bool} {f : FuncId} {args : List TV} {r : TV} {d : Option Nat} {K : au} {fr : TF} {tk : TK} {τ : TH} (h0 : Ru Γ f args τ r τ) (h1 : Ru Γ f args (τ.locked τ.next) r (τ.locked τ.next)) (hu : iy τ.next args = true) :
 eo Γ lk f args d K fr tk τ = K (fv fr d r) tk τ := by
 cases lk
 · rw [zcc8 (lk := false) h0 hu]; rfl
 · rw [zcc8 (lk := true) h1 hu]; rfl
theorem zbya {Γ : FuncId → Option TG} {f : FuncId} {args : List TV} {r : TV} {d : Option Nat} {K : au} {fr : TF} {tk : TK} {τ τ' : TH} (h0 : Ru Γ f args τ r τ') (hu : iy τ.next args = true) :
 eo Γ false f args d K fr tk τ = K (fv fr d r) tk τ' := by
 rw [zcc8 (lk := false) h0 hu]; rfl
theorem ifS {c : Prop} [Decidable c] {α : Type} {x : Option α} {r : α} (h : (if c then x else none) = some r) : c ∧ x = some r := by
 by_cases hc : c
 · rw [if_pos hc] at h; exact ⟨hc,h⟩
 · rw [if_neg hc] at h; cases h
theorem nq {a b : Nat} (h : a ≠ b) : ((a = b) = False) ∧ ((b = a) = False) ∧ (∀ (τ : TH) (x y : Ob),(τ.put b y).put a x = (τ.put a x).put b y) := ⟨eq_false h,eq_false (Ne.symm h),zb3e h⟩
theorem tbS : (∀ a : Int,Option.map (fun bs => TV.str ⟨bs.toArray⟩) (zbmf [.int .u8 a]) = some (TV.str (zbka [a]))) ∧ (∀ a b : Int,Option.map (fun bs => TV.str ⟨bs.toArray⟩) (zbmf [.int .u8 a,.int .u8 b]) = some (TV.str (zbka [a,b]))) ∧ (∀ a b c : Int,Option.map (fun bs => TV.str ⟨bs.toArray⟩) (zbmf [.int .u8 a,.int .u8 b,.int .u8 c]) = some (TV.str (zbka [a,b,c]))) ∧ (∀ a b c d : Int,Option.map (fun bs => TV.str ⟨bs.toArray⟩) (zbmf [.int .u8 a,.int .u8 b,.int .u8 c,.int .u8 d]) = some (TV.str (zbka [a,b,c,d]))) := ⟨fun _ => rfl,fun _ _ => rfl,fun _ _ _ => rfl,fun _ _ _ _ => rfl⟩
theorem LTN : type_of% (And.intro LTM (And.intro tbS (And.intro @zcdk @zbzv))) := And.intro LTM (And.intro tbS (And.intro @zcdk @zbzv))
theorem MC : (∀ {α β : Type} (f : α → β) (a : α) (l : List α),List.map f (a :: l) = f a :: List.map f l) ∧ (∀ {α β : Type} (f : α → β),List.map f [] = []) ∧ (∀ n : Nat,((n : Int)).toNat = n) := ⟨fun _ _ _ => rfl,fun _ => rfl,fun _ => rfl⟩
def os {α : Type} (E : α → TV) : List α → TV
 | [] => .slz
 | x :: r => .sl (List.map E (x :: r))
section
variable {α : Type} (t u : TypeId) (E : α → TV) (l : List α)
end
end Go.Proofs.Ytdcfoaafkppojaa.Sh
