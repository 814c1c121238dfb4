/- What a law is handed, laid into the shadow: numbers, texts, structs, slices of these. -/
import Derived.Test.YtdcfoaafkppojaaShL
import Derived.SizedLaws
import Derived.ChangeArms
import Derived.WideShapes
set_option linter.unusedVariables false
set_option linter.unusedSimpArgs false
namespace Go.Proofs.Ytdcfoaafkppojaa.Sh
open Go Go.RowKit Go.WideShapes
theorem za3y : reachBytes = 140737488351232 := by decide
theorem Rep.pushRo {W : World} {σ : ak} {m : Mp} (h : Rep W.heap.size W σ m W) (t : TypeId) (cs : List Value) (b off room : Nat) {c : Array Value} {t' : TypeId} {fz : Nat × Nat} (hb : W.heap[b]? = some (.cells c t' fz))
    (hc : ∀ j,j < cs.length → off + j < c.size ∧ bu m (cs.getD j undef) (c.getD (off + j) undef) ∧ scalar (cs.getD j undef) = true) :
    Rep W.heap.size W (σ.push (.cells t cs .ro)) (m.push ⟨b,off,room⟩) W where
  next := by simp [Mp.push,ak.push,h.next]
  below := h.below
  base := h.base
  blk := fun i hi => by
    have hi' : i < σ.next + 1 := hi
    by_cases e : i = σ.next
    · have e1 : (m.push ⟨b,off,room⟩).l i = ⟨b,off,room⟩ := by simp [Mp.push,h.next,e]
      have e2 : (σ.push (.cells t cs .ro)).blk i = .cells t cs .ro := by simp [ak.push,e]
      rw [e1,e2]
      exact ⟨c,t',fz,hb,fun j hj => ⟨(hc j hj).1,((hc j hj).2.1).mono (m.le_push _),(hc j hj).2.2⟩,fun e => (e rfl).elim⟩
    · have e1 : (m.push ⟨b,off,room⟩).l i = m.l i := by simp [Mp.push,h.next,e]
      have e2 : (σ.push (.cells t cs .ro)).blk i = σ.blk i := by simp [ak.push,e]
      rw [e1,e2]
      exact (h.blk i (by omega)).mono (m.le_push _)
  apart := fun i j hi hj hij hrw hlv => by
    have hi' : i < σ.next + 1 := hi
    exfalso
    simp only [ak.push] at hrw
    by_cases e : i = σ.next
    · rw [if_pos e] at hrw; cases hrw
    · rw [if_neg e] at hrw
      have hb' := h.blk i (by omega)
      cases hq : σ.blk i with
      | dead => rw [hq] at hrw; cases hrw
      | cells t2 cs2 rw2 =>
        rw [hq] at hrw hb'
        obtain ⟨c2,t3,fz2,g1,_,g3⟩ := hb'
        have := (g3 (by rintro rfl; cases hrw)).1
        have := (Array.getElem?_eq_some_iff.1 g1).1
        omega
      | map es =>
        rw [hq] at hb'
        obtain ⟨g1,ents,clock,g2,_⟩ := hb'
        have := (Array.getElem?_eq_some_iff.1 g2).1
        omega
class Arg (α : Type) where
  sz : Nat
  fits : Program → TypeId → Bool
  rel : ak → List Value → α → Prop
  ok : α → Prop
  agg : Bool := false
structure Imported {α : Type} [Arg α] (W : World) (σ : ak) (m : Mp) (cs : List Value) (a : α) (vs : List Value) (σ' : ak) (m' : Mp) : Prop where
  le : σ.le σ'
  mle : m.le m'
  rep : Rep W.heap.size W σ' m' W
  len : vs.length = Arg.sz α
  clen : cs.length = Arg.sz α
  vals : ∀ j,j < vs.length → bu m' (vs.getD j undef) (cs.getD j undef) ∧ scalar (vs.getD j undef) = true
  rel : Arg.rel σ' vs a
  ok : Arg.ok a
class ArgL (α : Type) [Arg α] : Prop where
  mono : ∀ {σ σ' : ak} {vs : List Value} {a : α},σ.le σ' → Arg.rel σ vs a → Arg.rel σ' vs a
  size : ∀ {P : Program} {t : TypeId},Arg.fits α P t = true → P.cellsOf t = Arg.sz α
  form : ∀ {P : Program} {t : TypeId} {W : World} {r : Reach} {base : Nat} {v : Value},Arg.fits α P t = true → Value.okWide P W r base t v → v = bif Arg.agg α then .agg v.cells else v.cells.getD 0 undef
  imp : ∀ {P : Program} {H : Type} {enc : TypeId × Value → H} {W : World} {fuel : Nat} {t : TypeId} {cs : List Value} {x : DataW H × List MemPlace},Arg.fits α P t = true →
    DataW.trod enc P W 0 (fun _ => true) true fuel t cs = some x → (∀ n ∈ x.1.weights P t,n ≤ reachBytes) → ∀ (σ : ak) (m : Mp),Rep W.heap.size W σ m W → ∃ (a : α) (vs : List Value) (σ' : ak) (m' : Mp),Imported W σ m cs a vs σ' m'
theorem zy {m : Mp} {v c : Value} (h : bu m v c) (hs : scalar v = true) : ∀ j,j < [v].length → bu m ([v].getD j undef) ([c].getD j undef) ∧ scalar ([v].getD j undef) = true := fun j hj => by
  obtain rfl : j = 0 := by simpa using hj
  exact ⟨h,hs⟩
theorem zaah {P : Program} {t : TypeId} (n : Nat) (h : szT P t = some n) : P.cellsOf t = n := by
  unfold szT at h
  cases hi : P.info? t with
  | none => rw [hi] at h; cases h
  | some i => rw [hi] at h; injection h with h; simp [Program.cellsOf,hi,h]
def isInt (k : IntKind) (P : Program) (t : TypeId) : Bool := (match P.underlying t with | some (.int k') => k' == k | _ => false) && szT P t == some 1
instance : Arg Int where
  sz := 1
  fits := isInt .i64
  rel := fun _ vs n => vs = [.int .i64 n]
  ok := fun n => -9223372036854775808 ≤ n ∧ n ≤ 9223372036854775807
theorem yq {k : IntKind} {P : Program} {t : TypeId} (h : isInt k P t = true) : P.underlying t = some (.int k) ∧ P.cellsOf t = 1 := by
  unfold isInt at h
  simp only [Bool.and_eq_true,beq_iff_eq] at h
  refine ⟨?_,zaah 1 h.2⟩
  have h1 := h.1
  split at h1
  · rename_i k' e; rw [e,show k' = k by simpa using h1]
  · cases h1
theorem wf_i64 {n : Int} (h : (Lit.int .i64 n).wf = true) : -9223372036854775808 ≤ n ∧ n ≤ 9223372036854775807 := by
  have e1 : IntKind.i64.min = -9223372036854775808 := by decide
  have e2 : IntKind.i64.max = 9223372036854775807 := by decide
  simp only [Lit.wf,e1,e2,Bool.and_eq_true,decide_eq_true_eq] at h
  exact h
instance : ArgL Int where
  mono := fun _ h => h
  size := fun h => (yq h).2
  form := fun hf hv => by obtain ⟨n,rfl⟩ := okWide_int (yq hf).1 hv; rfl
  imp := fun {P H enc W fuel t cs x} hf hx hw σ m hr => by
    obtain ⟨n,rfl,rfl,hwf⟩ := DataW.trod_int (yq hf).1 hx
    exact ⟨n,[.int .i64 n],σ,m,.refl _,.refl _,hr,rfl,rfl,zy (.int _ _) rfl,rfl,wf_i64 hwf⟩
instance : Arg UInt8 where
  sz := 1
  fits := isInt .u8
  rel := fun _ vs n => vs = [.int .u8 n.toNat]
  ok := fun _ => True
theorem wf_u8 {n : Int} (h : (Lit.int .u8 n).wf = true) : 0 ≤ n ∧ n < 256 := by
  have e1 : IntKind.u8.min = 0 := by decide
  have e2 : IntKind.u8.max = 255 := by decide
  simp only [Lit.wf,e1,e2,Bool.and_eq_true,decide_eq_true_eq] at h
  omega
instance : ArgL UInt8 where
  mono := fun _ h => h
  size := fun h => (yq h).2
  form := fun hf hv => by obtain ⟨n,rfl⟩ := okWide_int (yq hf).1 hv; rfl
  imp := fun {P H enc W fuel t cs x} hf hx hw σ m hr => by
    obtain ⟨n,rfl,rfl,hwf⟩ := DataW.trod_int (yq hf).1 hx
    have hb := wf_u8 hwf
    have e : (((UInt8.ofNat n.toNat).toNat : Nat) : Int) = n := by
      rw [UInt8.toNat_ofNat']
      omega
    exact ⟨UInt8.ofNat n.toNat,[.int .u8 n],σ,m,.refl _,.refl _,hr,rfl,rfl,zy (.int _ _) rfl,by show _ = _; rw [e],trivial⟩
def isT (p : TypeDesc → Bool) (n : Nat) (P : Program) (t : TypeId) : Bool := (match P.underlying t with | some d => p d | none => false) && szT P t == some n
theorem zalv {p : TypeDesc → Bool} {n : Nat} {P : Program} {t : TypeId} (h : isT p n P t = true) : (∃ d,P.underlying t = some d ∧ p d = true) ∧ P.cellsOf t = n := by
  unfold isT at h
  simp only [Bool.and_eq_true,beq_iff_eq] at h
  refine ⟨?_,zaah n h.2⟩
  have h1 := h.1
  split at h1
  · rename_i d e; exact ⟨d,e,h1⟩
  · cases h1
def isStr : TypeDesc → Bool | .string => true | _ => false
def isBoo : TypeDesc → Bool | .bool => true | _ => false
instance : Arg ByteArray where
  sz := 1
  fits := isT isStr 1
  rel := fun _ vs s => vs = [.string s]
  ok := fun s => s.size ≤ 140737488351232
instance : ArgL ByteArray where
  mono := fun _ h => h
  size := fun h => (zalv h).2
  form := fun hf hv => by
    obtain ⟨d,hd,hp⟩ := (zalv hf).1
    have e : d = .string := by cases d <;> first | rfl | cases hp
    subst e
    obtain ⟨n,rfl⟩ := okWide_string hd hv; rfl
  imp := fun {P H enc W fuel t cs x} hf hx hw σ m hr => by
    obtain ⟨d,hd,hp⟩ := (zalv hf).1
    have e : d = .string := by cases d <;> first | rfl | cases hp
    subst e
    obtain ⟨s,rfl,rfl,hs⟩ := DataW.trod_string hd hx
    refine ⟨s,[.string s],σ,m,.refl _,.refl _,hr,rfl,rfl,zy (.string _) rfl,rfl,?_⟩
    have := hw s.data.toList.length (by simp [DataW.weights])
    rw [za3y] at this
    show s.size ≤ 140737488351232
    simpa using this
instance : Arg Bool where
  sz := 1
  fits := isT isBoo 1
  rel := fun _ vs s => vs = [.bool s]
  ok := fun _ => True
instance : ArgL Bool where
  mono := fun _ h => h
  size := fun h => (zalv h).2
  form := fun hf hv => by
    obtain ⟨d,hd,hp⟩ := (zalv hf).1
    have e : d = .bool := by cases d <;> first | rfl | cases hp
    subst e
    obtain ⟨n,rfl⟩ := okWide_bool hd hv; rfl
  imp := fun {P H enc W fuel t cs x} hf hx hw σ m hr => by
    obtain ⟨d,hd,hp⟩ := (zalv hf).1
    have e : d = .bool := by cases d <;> first | rfl | cases hp
    subst e
    obtain ⟨b,rfl,rfl⟩ := DataW.trod_bool hd hx
    exact ⟨b,[.bool b],σ,m,.refl _,.refl _,hr,rfl,rfl,zy (.bool _) rfl,rfl,trivial⟩
def za1h {α : Type} [Arg α] (σ : ak) (vs : List Value) (l : List α) : Prop :=
  (vs = [.slice none 0 0] ∧ l = []) ∨ ∃ g off,vs = [.slice (some ⟨g,off,none⟩) l.length (Arg.sz α)] ∧
    (l ≠ [] → ∃ t cs,σ.at g = .cells t cs .ro ∧ off + l.length * Arg.sz α ≤ cs.length ∧ ∀ i (h : i < l.length),Arg.rel σ ((cs.drop (off + i * Arg.sz α)).take (Arg.sz α)) l[i])
def slElem (P : Program) (t : TypeId) : Option TypeId := match P.underlying t with | some (.slice e) => some e | _ => none
instance {α : Type} [Arg α] : Arg (List α) where
  sz := 1
  fits := fun P t => (match slElem P t with | some e => Arg.fits α P e && decide (1 ≤ P.bytesOf e) | none => false) && szT P t == some 1 && decide (1 ≤ Arg.sz α)
  rel := za1h
  ok := fun l => l.length ≤ 140737488351232 ∧ ∀ x ∈ l,Arg.ok x
theorem zae1 {H : Type} {P : Program} {e : TypeId} : ∀ {ds : List (DataW H)} {d : DataW H},d ∈ ds → ∀ n ∈ d.weights P e,n ∈ DataW.weightsAll P e ds
  | d0 :: ds,d,hd,n,hn => by
    simp only [DataW.weightsAll,List.mem_append]
    rcases List.mem_cons.1 hd with rfl | hd
    · exact .inl hn
    · exact .inr (zae1 hd n hn)
theorem za5y {α : Type} [Arg α] [ArgL α] {P : Program} {H : Type} {enc : TypeId × Value → H} {W : World} {fuel : Nat} {e : TypeId} (hf : Arg.fits α P e = true) (b off : Nat) {c : Array Value} {t' : TypeId} {fz : Nat × Nat}
    (hb : W.heap[b]? = some (.cells c t' fz)) (xs : List (DataW H × List MemPlace)) (hw : ∀ x ∈ xs,∀ n ∈ x.1.weights P e,n ≤ reachBytes) : ∀ (len : Nat),len ≤ xs.length →
    (∀ i,i < len → ∃ ci,DataW.trod enc P W 0 (fun _ => true) true fuel e ci = xs[i]? ∧ ∀ j,j < Arg.sz α → c[off + i * Arg.sz α + j]? = ci[j]?) →
    ∀ (σ : ak) (m : Mp),Rep W.heap.size W σ m W → ∃ (as : List α) (vs : List Value) (σ' : ak) (m' : Mp),σ.le σ' ∧ m.le m' ∧ Rep W.heap.size W σ' m' W ∧ as.length = len ∧ vs.length = len * Arg.sz α ∧
      (∀ j,j < vs.length → off + j < c.size ∧ bu m' (vs.getD j undef) (c.getD (off + j) undef) ∧ scalar (vs.getD j undef) = true) ∧
      (∀ i (h : i < as.length),Arg.rel σ' ((vs.drop (i * Arg.sz α)).take (Arg.sz α)) as[i]) ∧ ∀ x ∈ as,Arg.ok x
  | 0,_,_,σ,m,hr => ⟨[],[],σ,m,.refl _,.refl _,hr,rfl,by simp,fun j hj => by simp at hj,fun i h => by simp at h,fun x hx => by simp at hx⟩
  | len + 1,hl,hall,σ,m,hr => by
    obtain ⟨as,vs,σ1,m1,a1,a2,a3,a4,a5,a6,a7,a8⟩ := za5y hf b off hb xs hw len (by omega) (fun i hi => hall i (by omega)) σ m hr
    obtain ⟨ci,hci,hcj⟩ := hall len (by omega)
    have hx : xs[len]? = some xs[len] := List.getElem?_eq_getElem (by omega)
    rw [hx] at hci
    obtain ⟨a,ws,σ2,m2,i1,i2,i3,i4,i4',i5,i6,i7⟩ := ArgL.imp (α := α) hf hci (hw _ (List.getElem_mem (by omega))) σ1 m1 a3
    refine ⟨as ++ [a],vs ++ ws,σ2,m2,a1.trans i1,a2.trans i2,i3,by simp [a4],by rw [List.length_append,a5,i4,Nat.succ_mul],?_,?_,?_⟩
    · intro j hj
      by_cases hjl : j < vs.length
      · obtain ⟨b1,b2,b3⟩ := a6 j hjl
        have e : (vs ++ ws).getD j undef = vs.getD j undef := by simp [List.getD_eq_getElem?_getD,List.getElem?_append_left hjl]
        rw [e]
        exact ⟨b1,b2.mono i2,b3⟩
      · have hj2 : j - vs.length < ws.length := by rw [List.length_append] at hj; omega
        have e : (vs ++ ws).getD j undef = ws.getD (j - vs.length) undef := by simp [List.getD_eq_getElem?_getD,List.getElem?_append_right (show vs.length ≤ j by omega)]
        obtain ⟨b2,b3⟩ := i5 (j - vs.length) hj2
        have q := hcj (j - vs.length) (by rw [← i4]; exact hj2)
        have e2 : off + len * Arg.sz α + (j - vs.length) = off + j := by rw [← a5]; omega
        rw [e2] at q
        have hcl : j - vs.length < ci.length := by rw [i4',← i4]; exact hj2
        rw [List.getElem?_eq_getElem hcl] at q
        obtain ⟨q1,q2⟩ := Array.getElem?_eq_some_iff.1 q
        rw [e]
        refine ⟨q1,?_,b3⟩
        have e3 : c.getD (off + j) undef = ci.getD (j - vs.length) undef := by simp [Array.getD,q1,q2,List.getD_eq_getElem?_getD,List.getElem?_eq_getElem hcl]
        rw [e3]
        exact b2
    · intro i hi
      by_cases hil : i < as.length
      · have e : (as ++ [a])[i] = as[i] := List.getElem_append_left hil
        rw [e]
        have q := ArgL.mono i1 (a7 i hil)
        have e1 : i * Arg.sz α + Arg.sz α ≤ vs.length := by rw [a5,← Nat.succ_mul]; exact Nat.mul_le_mul_right _ (by omega)
        have : ((vs ++ ws).drop (i * Arg.sz α)).take (Arg.sz α) = (vs.drop (i * Arg.sz α)).take (Arg.sz α) := by
          rw [List.drop_append_of_le_length (by omega),List.take_append_of_le_length (by rw [List.length_drop]; omega)]
        rw [this]
        exact q
      · have hie : i = as.length := by simp at hi; omega
        subst hie
        have e : (as ++ [a])[as.length] = a := by simp
        rw [e]
        have : ((vs ++ ws).drop (as.length * Arg.sz α)).take (Arg.sz α) = ws := by
          rw [a4,← a5,List.drop_left,← i4,List.take_length]
        rw [this]
        exact i6
    · intro x hx
      rcases List.mem_append.1 hx with hx | hx
      · exact a8 x hx
      · rw [List.mem_singleton.1 hx]; exact i7
theorem relSl_mono {α : Type} [Arg α] [ArgL α] {σ σ' : ak} {vs : List Value} {l : List α} (hle : σ.le σ') (h : za1h σ vs l) : za1h σ' vs l := by
  rcases h with h | ⟨g,off,h1,h2⟩
  · exact .inl h
  · refine .inr ⟨g,off,h1,fun hne => ?_⟩
    obtain ⟨t,cs,b1,b2,b3⟩ := h2 hne
    have hlt : g < σ.next := ak.lt_of_at (by rw [b1]; rfl)
    exact ⟨t,cs,by rw [hle.at_ hlt]; exact b1,b2,fun i hi => ArgL.mono hle (b3 i hi)⟩
instance {α : Type} [Arg α] [ArgL α] : ArgL (List α) where
  mono := relSl_mono
  form := fun {P t W r base v} hf hv => by
    simp only [Arg.fits,Bool.and_eq_true,beq_iff_eq,decide_eq_true_eq] at hf
    have hf := hf.1.1
    unfold slElem at hf
    split at hf
    · rename_i e he
      split at he
      · rename_i e' hu
        obtain ⟨a,n,k,rfl⟩ := okWide_slice hu hv
        rfl
      · cases he
    · cases hf
  size := fun h => by
    simp only [Arg.fits,Bool.and_eq_true,beq_iff_eq] at h
    exact zaah 1 h.1.2
  imp := fun {P H enc W fuel t cs x} hf hx hw σ m hr => by
    simp only [Arg.fits,Bool.and_eq_true,beq_iff_eq,decide_eq_true_eq] at hf
    obtain ⟨⟨hf,hsz⟩,hpos⟩ := hf
    unfold slElem at hf
    split at hf
    · rename_i e he
      split at he
      · rename_i e' hu
        injection he with he
        subst he
        rw [Bool.and_eq_true] at hf
        obtain ⟨hf,hby⟩ := hf
        have hby : 1 ≤ P.bytesOf e' := by simpa using hby
        rcases DataW.trod_slice hu hx with ⟨rfl,rfl⟩ | ⟨a,len,cap,elems,rest,n,rfl,rfl,rfl,_,hlc,_,hel,hei,hre,_⟩
        · exact ⟨[],[.slice none 0 0],σ,m,.refl _,.refl _,hr,rfl,rfl,zy .nilS rfl,.inl ⟨rfl,rfl⟩,by simp,fun x hx => by simp at hx⟩
        · have hlen : len ≤ 140737488351232 := by
            have := hw ((elems.map (·.1)).length + (rest.map (·.1)).length |> (· * P.bytesOf e')) (by simp [DataW.weights,hu])
            rw [za3y] at this
            simp only [List.length_map,hel] at this
            have h3 : len * 1 ≤ (len + rest.length) * P.bytesOf e' := Nat.mul_le_mul (by omega) hby
            omega
          have hsize := ArgL.size (α := α) hf
          by_cases hc0 : cap = 0
          · subst hc0
            obtain rfl : len = 0 := by omega
            exact ⟨[],[.slice (some ⟨0,0,none⟩) 0 (Arg.sz α)],σ,m,.refl _,.refl _,hr,rfl,rfl,zy (.sliceE _ _ _ _) rfl,.inr ⟨0,0,rfl,fun h => (h rfl).elim⟩,by simp,fun x hx => by simp at hx⟩
          · obtain ⟨hrl,hri⟩ := hre rfl
            -- the first cell is there
            have hfirst : ∃ ci,W.cells? 0 a (P.cellsOf e') = some ci := by
              by_cases hl0 : 0 < len
              · have := hei 0 hl0
                rw [List.getElem?_eq_getElem (by omega)] at this
                obtain ⟨ci,h1,_⟩ := Option.bind_eq_some_iff.1 this
                exact ⟨ci,by simpa [Addr.add] using h1⟩
              · obtain rfl : len = 0 := by omega
                have := hri 0 (by omega)
                rw [List.getElem?_eq_getElem (by omega)] at this
                obtain ⟨ci,h1,_⟩ := Option.bind_eq_some_iff.1 this
                exact ⟨ci,by simpa [Addr.add] using h1⟩
            obtain ⟨ci0,hci0⟩ := hfirst
            obtain ⟨_,hl0,hcell0⟩ := World.cells?_some hci0
            have h00 := hcell0 0 (by omega)
            rw [List.getElem?_eq_getElem (by omega)] at h00
            have ha0 : a.add 0 = a := rfl
            rw [ha0] at h00
            unfold World.cell? at h00
            split at h00
            · rename_i c t' fz hb
              split at h00
              · cases h00
              · rename_i hspot
                obtain ⟨ab,ao,asp⟩ := a
                have hsp : asp = none := by cases asp <;> simp_all
                subst hsp
                have hrow : ∀ i,i < len → ∃ ci,DataW.trod enc P W 0 (fun _ => true) true n e' ci = elems[i]? ∧ ∀ j,j < Arg.sz α → c[ao + i * Arg.sz α + j]? = ci[j]? := fun i hi => by
                  have := hei i hi
                  rw [List.getElem?_eq_getElem (by omega)] at this
                  obtain ⟨ci,h1,h2⟩ := Option.bind_eq_some_iff.1 this
                  refine ⟨ci,by rw [h2,List.getElem?_eq_getElem (by omega)],fun j hj => ?_⟩
                  obtain ⟨_,_,hcell⟩ := World.cells?_some h1
                  have := hcell j (by omega)
                  rw [j8,j8,hsize] at this
                  rw [← this]
                  simp [World.cell?,hb]
                obtain ⟨as,vs,σ1,m1,a1,a2,a3,a4,a5,a6,a7,a8⟩ := za5y (α := α) hf ab ao hb elems (fun x hx k hk => hw k (by
                  simp only [DataW.weights,hu,List.mem_cons,List.mem_append]
                  exact .inr (.inl (zae1 (List.mem_map_of_mem hx) k hk)))) len (by omega) hrow σ m hr
                have hr2 := a3.pushRo e' vs ab ao (cap * Arg.sz α) hb a6
                refine ⟨as,[.slice (some ⟨σ1.next,0,none⟩) as.length (Arg.sz α)],_,_,a1.trans (σ1.le_push _),a2.trans (m1.le_push _),hr2,rfl,rfl,zy ?_ rfl,.inr ⟨σ1.next,0,rfl,fun _ => ?_⟩,by rw [a4]; exact hlen,a8⟩
                · have hn := a3.next
                  have := bu.slice (m := m1.push ⟨ab,ao,cap * Arg.sz α⟩) σ1.next 0 as.length (Arg.sz α) cap (by simp [Mp.push,hn]) (by omega) (by simp [Mp.push,hn])
                  rw [a4] at this ⊢
                  simpa [Mp.push,hn] using this
                · refine ⟨e',vs,σ1.at_push_new _,by rw [a4,a5]; omega,fun i hi => ?_⟩
                  rw [Nat.zero_add]
                  exact ArgL.mono (σ1.le_push _) (a7 i hi)
            · cases h00
      · cases he
    · cases hf
class Flds (β : Type) where
  sz : Nat
  fits : Program → List Field → Nat → Bool
  rel : ak → List Value → β → Prop
  ok : β → Prop
instance : Flds Unit where
  sz := 0
  fits := fun _ fs _ => fs.isEmpty
  rel := fun _ vs _ => vs = []
  ok := fun _ => True
instance {α β : Type} [Arg α] [Flds β] : Flds (α × β) where
  sz := Arg.sz α + Flds.sz β
  fits := fun P fs off => match fs with | [] => false | f :: r => f.offset == off && Arg.fits α P f.type && Flds.fits β P r (off + Arg.sz α)
  rel := fun σ vs x => ∃ v1 v2,vs = v1 ++ v2 ∧ v1.length = Arg.sz α ∧ Arg.rel σ v1 x.1 ∧ Flds.rel σ v2 x.2
  ok := fun x => Arg.ok x.1 ∧ Flds.ok x.2
class FldsL (β : Type) [Flds β] : Prop where
  mono : ∀ {σ σ' : ak} {vs : List Value} {a : β},σ.le σ' → Flds.rel σ vs a → Flds.rel σ' vs a
  imp : ∀ {P : Program} {H : Type} {enc : TypeId × Value → H} {W : World} {fuel : Nat} {fs : List Field} {off : Nat} {cs : List Value} {xs : List (DataW H × List MemPlace)},Flds.fits β P fs off = true →
    (∀ (i : Nat) (f : Field),fs[i]? = some f → DataW.trod enc P W 0 (fun _ => true) true fuel f.type ((cs.drop f.offset).take (P.cellsOf f.type)) = xs[i]?) → xs.length = fs.length → off + Flds.sz β = cs.length →
    (∀ n ∈ DataW.weightsEach P (fs.map (·.type)) (xs.map (·.1)),n ≤ reachBytes) → ∀ (σ : ak) (m : Mp),Rep W.heap.size W σ m W → ∃ (a : β) (vs : List Value) (σ' : ak) (m' : Mp),
      σ.le σ' ∧ m.le m' ∧ Rep W.heap.size W σ' m' W ∧ vs.length = Flds.sz β ∧ (∀ j,j < vs.length → bu m' (vs.getD j undef) (cs.getD (off + j) undef) ∧ scalar (vs.getD j undef) = true) ∧ Flds.rel σ' vs a ∧ Flds.ok a
instance : FldsL Unit where
  mono := fun _ h => h
  imp := fun hf hx hl hs hw σ m hr => ⟨(),[],σ,m,.refl _,.refl _,hr,rfl,fun j hj => by simp at hj,rfl,trivial⟩
instance {α β : Type} [Arg α] [ArgL α] [Flds β] [FldsL β] : FldsL (α × β) where
  mono := fun hle ⟨v1,v2,h1,h2,h3,h4⟩ => ⟨v1,v2,h1,h2,ArgL.mono hle h3,FldsL.mono hle h4⟩
  imp := fun {P H enc W fuel fs off cs xs} hf hx hl hs hw σ m hr => by
    cases fs with
    | nil => cases hf
    | cons f r =>
      simp only [Flds.fits,Bool.and_eq_true,beq_iff_eq] at hf
      obtain ⟨⟨rfl,hf1⟩,hf2⟩ := hf
      have hs' : f.offset + (Arg.sz α + Flds.sz β) = cs.length := hs
      cases xs with
      | nil => simp at hl
      | cons x xr =>
        have h0 := hx 0 f rfl
        simp only [List.getElem?_cons_zero] at h0
        have hsz := ArgL.size (α := α) hf1
        obtain ⟨a,v1,σ1,m1,i1,i2,i3,i4,i4',i5,i6,i7⟩ := ArgL.imp (α := α) hf1 h0 (fun n hn => hw n (by simp only [List.map_cons,DataW.weightsEach,List.mem_append]; exact .inl hn)) σ m hr
        obtain ⟨b,v2,σ2,m2,j1,j2,j3,j4,j5,j6,j7⟩ := FldsL.imp (β := β) hf2 (fun i g hg => by have := hx (i + 1) g (by simpa using hg); simpa using this) (by simpa using hl) (by omega)
          (fun n hn => hw n (by simp only [List.map_cons,DataW.weightsEach,List.mem_append]; exact .inr hn)) σ1 m1 i3
        refine ⟨(a,b),v1 ++ v2,σ2,m2,i1.trans j1,i2.trans j2,j3,by rw [List.length_append,i4,j4]; rfl,?_,⟨v1,v2,rfl,i4,ArgL.mono j1 i6,j6⟩,i7,j7⟩
        intro j hj
        by_cases hjl : j < v1.length
        · obtain ⟨q1,q2⟩ := i5 j hjl
          have e : (v1 ++ v2).getD j undef = v1.getD j undef := by simp [List.getD_eq_getElem?_getD,List.getElem?_append_left hjl]
          have e2 : ((cs.drop f.offset).take (P.cellsOf f.type)).getD j undef = cs.getD (f.offset + j) undef := by
            rw [hsz]
            have : j < Arg.sz α := by omega
            simp [List.getD_eq_getElem?_getD,List.getElem?_take,this,List.getElem?_drop]
          rw [e,← e2]
          exact ⟨q1.mono j2,q2⟩
        · obtain ⟨q1,q2⟩ := j5 (j - v1.length) (by rw [List.length_append] at hj; omega)
          have e : (v1 ++ v2).getD j undef = v2.getD (j - v1.length) undef := by simp [List.getD_eq_getElem?_getD,List.getElem?_append_right (show v1.length ≤ j by omega)]
          have e2 : f.offset + Arg.sz α + (j - v1.length) = f.offset + j := by omega
          rw [e2] at q1
          rw [e]
          exact ⟨q1,q2⟩
structure Rec (β : Type) where
  val : β
def recFs (P : Program) (t : TypeId) : Option (List Field) := match P.underlying t with | some (.struct fs) => some fs.toList | _ => none
instance {β : Type} [Flds β] : Arg (Rec β) where
  sz := Flds.sz β
  fits := fun P t => (match recFs P t with | some fs => Flds.fits β P fs 0 | none => false) && szT P t == some (Flds.sz β)
  rel := fun σ vs x => Flds.rel σ vs x.val
  ok := fun x => Flds.ok x.val
  agg := true
theorem za1i {β : Type} [Flds β] {P : Program} {t : TypeId} (h : Arg.fits (Rec β) P t = true) : (∃ fs : Array Field,P.underlying t = some (.struct fs) ∧ Flds.fits β P fs.toList 0 = true) ∧ P.cellsOf t = Flds.sz β := by
  simp only [Arg.fits,Bool.and_eq_true,beq_iff_eq] at h
  refine ⟨?_,zaah _ h.2⟩
  have h1 := h.1
  unfold recFs at h1
  split at h1
  · rename_i fs e
    split at e
    · rename_i fs' e'
      injection e with e
      subst e
      exact ⟨fs',e',h1⟩
    · cases e
  · cases h1
instance {β : Type} [Flds β] [FldsL β] : ArgL (Rec β) where
  mono := fun hle h => FldsL.mono (β := β) hle h
  size := fun h => (za1i h).2
  form := fun hf hv => by
    obtain ⟨⟨fs,hu,_⟩,_⟩ := za1i hf
    obtain ⟨cs,rfl,_⟩ := okWide_struct hu hv
    rfl
  imp := fun {P H enc W fuel t cs x} hf hx hw σ m hr => by
    obtain ⟨⟨fs,hu,hff⟩,hc⟩ := za1i hf
    obtain ⟨xs,n,rfl,rfl,hl,hxl,hi⟩ := DataW.trod_struct hu hx
    obtain ⟨b,vs,σ',m',j1,j2,j3,j4,j5,j6,j7⟩ := FldsL.imp (β := β) hff (xs := xs) (cs := cs) (fun i f hf => hi i f (by simpa using hf)) (by simpa using hxl) (by rw [hl,hc,Nat.zero_add])
      (fun k hk => hw k (by simpa only [DataW.weights,hu] using hk)) σ m hr
    exact ⟨⟨b⟩,vs,σ',m',j1,j2,j3,j4,by rw [hl,hc]; rfl,fun j hj => by have := j5 j hj; rwa [Nat.zero_add] at this,j6,j7⟩
def toV (α : Type) [Arg α] (vs : List Value) : Value := bif Arg.agg α then .agg vs.toArray else vs.getD 0 undef
def ArgV {α : Type} [Arg α] (σ : ak) (v : Value) (a : α) : Prop := ∃ vs,v = toV α vs ∧ vs.length = Arg.sz α ∧ Arg.rel σ vs a
theorem ArgV.mono {α : Type} [Arg α] [ArgL α] {σ σ' : ak} {v : Value} {a : α} (hle : σ.le σ') (h : ArgV σ v a) : ArgV σ' v a :=
  let ⟨vs,h1,h2,h3⟩ := h
  ⟨vs,h1,h2,ArgL.mono hle h3⟩
theorem zawz {H : Type} {P : Program} {ts : List TypeId} {ds : List (DataW H)} (h : (DataW.weightsEach P ts ds).all (· ≤ reachBytes) = true) {j : Nat} {t : TypeId} {d : DataW H} (ht : ts[j]? = some t) (hd : ds[j]? = some d) : ∀ n ∈ d.weights P t,n ≤ reachBytes :=
  fun n hn => by simpa using List.all_eq_true.1 h n (DataW.weights_mem_each ht hd n hn)
theorem arg_in {α : Type} [Arg α] [ArgL α] {P : Program} {H : Type} {enc : TypeId × Value → H} {W : World} {t : TypeId} {v : Value} {d : DataW H} {ps : List MemPlace} {r : Reach} {base : Nat} (hf : Arg.fits α P t = true) (hv : Value.okWide P W r base t v)
    (hd : DataW.Trod enc P W 0 (fun _ => true) true t v d ps) (hw : ∀ n ∈ d.weights P t,n ≤ reachBytes) {σ : ak} {m : Mp} (hr : Rep W.heap.size W σ m W) :
    ∃ (a : α) (v' : Value) (σ' : ak) (m' : Mp),σ.le σ' ∧ m.le m' ∧ Rep W.heap.size W σ' m' W ∧ bu m' v' v ∧ ArgV σ' v' a ∧ Arg.ok a := by
  obtain ⟨fuel,hx⟩ := hd
  obtain ⟨a,vs,σ',m',i1,i2,i3,i4,i4',i5,i6,i7⟩ := ArgL.imp (α := α) hf hx hw σ m hr
  refine ⟨a,toV α vs,σ',m',i1,i2,i3,?_,⟨vs,rfl,i4,i6⟩,i7⟩
  have hform := ArgL.form (α := α) hf hv
  have hcl : v.cells.size = Arg.sz α := by simpa using i4'
  unfold toV
  cases hag : Arg.agg α
  · rw [hag] at hform
    simp only [cond_false] at hform ⊢
    rw [hform]
    by_cases h0 : 0 < vs.length
    · have := (i5 0 h0).1
      simpa [List.getD_eq_getElem?_getD,Array.getD_eq_getD_getElem?] using this
    · have e1 : vs = [] := by cases vs with | nil => rfl | cons => simp at h0
      have e2 : v.cells.size = 0 := by rw [hcl,← i4,e1]; rfl
      have e3 : v.cells.getD 0 undef = undef := by simp [Array.getD,e2]
      rw [e1,e3]
      exact .undef _
  · rw [hag] at hform
    simp only [cond_true] at hform ⊢
    rw [hform]
    refine .agg _ _ (by simp [i4,hcl]) fun j hj => ?_
    have := (i5 j (by simpa using hj)).1
    rw [bo]
    simpa [List.getD_eq_getElem?_getD,Array.getD_eq_getD_getElem?] using this
theorem argV_int {σ : ak} {v : Value} {n : Int} : ArgV σ v n ↔ v = .int .i64 n := by
  constructor
  · rintro ⟨vs,rfl,_,h⟩
    have : vs = [.int .i64 n] := h
    rw [this]; rfl
  · rintro rfl; exact ⟨[.int .i64 n],rfl,rfl,rfl⟩
theorem argV_u8 {σ : ak} {v : Value} {n : UInt8} : ArgV σ v n ↔ v = .int .u8 n.toNat := by
  constructor
  · rintro ⟨vs,rfl,_,h⟩
    have : vs = [.int .u8 n.toNat] := h
    rw [this]; rfl
  · rintro rfl; exact ⟨[.int .u8 n.toNat],rfl,rfl,rfl⟩
theorem argV_str {σ : ak} {v : Value} {s : ByteArray} : ArgV σ v s ↔ v = .string s := by
  constructor
  · rintro ⟨vs,rfl,_,h⟩
    have : vs = [.string s] := h
    rw [this]; rfl
  · rintro rfl; exact ⟨[.string s],rfl,rfl,rfl⟩
theorem argV_bool {σ : ak} {v : Value} {b : Bool} : ArgV σ v b ↔ v = .bool b := by
  constructor
  · rintro ⟨vs,rfl,_,h⟩
    have : vs = [.bool b] := h
    rw [this]; rfl
  · rintro rfl; exact ⟨[.bool b],rfl,rfl,rfl⟩
theorem argV_sl {α : Type} [Arg α] {σ : ak} {v : Value} {l : List α} : ArgV σ v l ↔ za1h σ [v] l := by
  constructor
  · rintro ⟨vs,rfl,h1,h⟩
    have h1 : vs.length = 1 := h1
    obtain ⟨x,rfl⟩ := List.length_eq_one_iff.1 h1
    exact h
  · intro h; exact ⟨[v],rfl,rfl,h⟩
theorem relSl_len {α : Type} [Arg α] {σ : ak} {v : Value} {l : List α} (h : za1h σ [v] l) : ∃ a s,v = .slice a l.length s := by
  rcases h with ⟨h,rfl⟩ | ⟨g,off,h,_⟩
  · injection h with h; exact ⟨_,_,h⟩
  · injection h with h; exact ⟨_,_,h⟩
theorem relSl_at {α : Type} [Arg α] {σ : ak} {v : Value} {l : List α} (h : za1h σ [v] l) {i : Nat} (hi : i < l.length) :
    ∃ g off vs,v = .slice (some ⟨g,off,none⟩) l.length (Arg.sz α) ∧ σ.row g (off + i * Arg.sz α) (Arg.sz α) = some vs ∧ Arg.rel σ vs l[i] ∧ g < σ.next := by
  rcases h with ⟨h,rfl⟩ | ⟨g,off,h,h2⟩
  · simp at hi
  · injection h with h
    have hne : l ≠ [] := by rintro rfl; simp at hi
    obtain ⟨t,cs,b1,b2,b3⟩ := h2 hne
    refine ⟨g,off,_,h,?_,b3 i hi,ak.lt_of_at (by rw [b1]; rfl)⟩
    unfold ak.row
    rw [b1]
    have : i * Arg.sz α + Arg.sz α ≤ l.length * Arg.sz α := by rw [← Nat.succ_mul]; exact Nat.mul_le_mul_right _ hi
    simp only
    rw [if_pos (by omega)]
theorem ak.le_put {σ0 σ : ak} (h : σ0.le σ) {g : Nat} (hg : σ0.next ≤ g) (t : TypeId) (cs : List Value) : σ0.le (σ.set g (.cells t cs .rw)) :=
  ⟨h.1,fun i hi => by
    have : i ≠ g := by omega
    simp only [ak.set,if_neg this]
    exact h.2 i hi⟩
theorem ak.le_kill {σ0 σ : ak} (h : σ0.le σ) {g : Nat} (hg : σ0.next ≤ g) : σ0.le (σ.set g .dead) :=
  ⟨h.1,fun i hi => by
    have : i ≠ g := by omega
    simp only [ak.set,if_neg this]
    exact h.2 i hi⟩
theorem ak.le_push' {σ0 σ : ak} (h : σ0.le σ) (b : Blk) : σ0.le (σ.push b) := h.trans (σ.le_push b)
end Go.Proofs.Ytdcfoaafkppojaa.Sh
