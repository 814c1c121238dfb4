/- What the printed functions are made of: partial answers, loops, reads; how the tree level reads the same. -/
import Derived.Test.YtdcfoaafkppojaaTv10
set_option linter.unusedVariables false
set_option linter.unusedSimpArgs false
namespace Go.Proofs.Ytdcfoaafkppojaa.Sh
open Go Go.RowKit
theorem ob {α β : Type} {x : Option α} {f : α → Option β} {r : β} (h : (x >>= f) = some r) : ∃ a,x = some a ∧ f a = some r := Option.bind_eq_some_iff.1 h
theorem obs {α β : Type} {a : α} {f : α → Option β} : (some a >>= f) = f a := rfl
theorem obn {α β : Type} {f : α → Option β} : ((none : Option α) >>= f) = none := rfl
inductive LX (α β : Type) where
  | ex (a : α)
  | rt (b : β)
inductive LS (σ ρ : Type) where
  | nx (s : σ)
  | dn (r : ρ)
def zaoc {σ ρ : Type} (f : σ → Option (LS σ ρ)) : Nat → σ → Option ρ
  | 0,_ => none
  | n + 1,s => match f s with
    | some (.nx s') => zaoc f n s'
    | some (.dn r) => some r
    | none => none
theorem zalu {σ ρ : Type} {f : σ → Option (LS σ ρ)} : ∀ {n m : Nat} {s : σ} {r : ρ},n ≤ m → zaoc f n s = some r → zaoc f m s = some r
  | 0,_,_,_,_,h => by cases h
  | n + 1,0,_,_,h,_ => by omega
  | n + 1,m + 1,s,r,hle,h => by
    simp only [zaoc] at h ⊢
    cases hf : f s with
    | none => rw [hf] at h; cases h
    | some o =>
      rw [hf] at h
      cases o with
      | nx s' => exact zalu (by omega) h
      | dn r' => exact h
open Classical in
noncomputable def ko {σ ρ : Type} (f : σ → Option (LS σ ρ)) (s : σ) : Option ρ := if h : ∃ r n,zaoc f n s = some r then some h.choose else none
theorem vj {σ ρ : Type} {f : σ → Option (LS σ ρ)} {s : σ} {r : ρ} : ko f s = some r ↔ ∃ n,zaoc f n s = some r := by
  unfold ko
  constructor
  · intro h
    split at h
    · rename_i hx
      injection h with h
      obtain ⟨n,hn⟩ := hx.choose_spec
      exact ⟨n,by rw [hn,h]⟩
    · cases h
  · rintro ⟨n,hn⟩
    have hx : ∃ r n,zaoc f n s = some r := ⟨r,n,hn⟩
    rw [dif_pos hx]
    obtain ⟨m,hm⟩ := hx.choose_spec
    have h1 := zalu (Nat.le_max_left n m) hn
    have h2 := zalu (Nat.le_max_right n m) hm
    rw [h1] at h2
    exact h2.symm
def LS.go {σ ρ : Type} (f : σ → Option ρ) : LS σ ρ → Option ρ
  | .nx s => f s
  | .dn r => some r
theorem go_nx {σ ρ : Type} (f : σ → Option ρ) (s : σ) : LS.go f (.nx s) = f s := rfl
theorem go_dn {σ ρ : Type} (f : σ → Option ρ) (r : ρ) : LS.go f (.dn r : LS σ ρ) = some r := rfl
theorem ei {σ ρ : Type} (f : σ → Option (LS σ ρ)) (s : σ) : ko f s = f s >>= LS.go (ko f) := by
  cases hf : f s with
  | none =>
    cases h : ko f s with
    | none => rfl
    | some r =>
      obtain ⟨n,hn⟩ := vj.1 h
      cases n with
      | zero => cases hn
      | succ n => simp only [zaoc,hf] at hn; cases hn
  | some o =>
    cases o with
    | dn r => exact vj.2 ⟨1,by simp only [zaoc,hf]⟩
    | nx s' =>
      show ko f s = ko f s'
      cases h : ko f s' with
      | some r =>
        obtain ⟨n,hn⟩ := vj.1 h
        exact vj.2 ⟨n + 1,by simp only [zaoc,hf]; exact hn⟩
      | none =>
        cases h2 : ko f s with
        | none => rfl
        | some r =>
          obtain ⟨n,hn⟩ := vj.1 h2
          cases n with
          | zero => cases hn
          | succ n =>
            simp only [zaoc,hf] at hn
            rw [vj.2 ⟨n,hn⟩] at h
            cases h
theorem cy {σ ρ : Type} {f : σ → Option (LS σ ρ)} {P : σ → ρ → Prop} (h : ∀ s o,f s = some o → ∀ r,(match o with | .nx s' => P s' r | .dn r' => r' = r) → P s r) {s : σ} {r : ρ} (hr : ko f s = some r) : P s r := by
  obtain ⟨n,hn⟩ := vj.1 hr
  clear hr
  induction n generalizing s with
  | zero => cases hn
  | succ n ih =>
    simp only [zaoc] at hn
    cases hf : f s with
    | none => rw [hf] at hn; cases hn
    | some o =>
      rw [hf] at hn
      cases o with
      | nx s' => exact h s _ hf r (ih hn)
      | dn r' => injection hn with hn; exact h s _ hf r hn
def ixL {α : Type} (l : List α) (i : Int) : Option α := if 0 ≤ i then l[i.toNat]? else none
theorem a9 {α : Type} {l : List α} {i : Int} {x : α} (h : ixL l i = some x) : 0 ≤ i ∧ i < (l.length : Int) ∧ ∀ (enc : α → TV),(l.map enc).getD i.toNat .undef = enc x ∧ (l.map enc)[i.toNat]? = some (enc x) := by
  unfold ixL at h
  split at h
  · rename_i h0
    obtain ⟨hlt,hx⟩ := List.getElem?_eq_some_iff.1 h
    refine ⟨h0,by omega,fun enc => ?_⟩
    have : (l.map enc)[i.toNat]? = some (enc x) := by rw [List.getElem?_map,h]; rfl
    exact ⟨by rw [List.getD_eq_getElem?_getD,this]; rfl,this⟩
  · cases h
theorem sq {α : Type} {l : List α} {i : Nat} (h : i < l.length) : ixL l (i : Int) = some l[i] := by
  unfold ixL
  rw [if_pos (by omega),Int.toNat_natCast,List.getElem?_eq_getElem h]
def ixB (s : ByteArray) (i : Int) : Option Int := if 0 ≤ i ∧ i < (s.size : Int) then some ((s.data.getD i.toNat 0).toNat : Int) else none
theorem zakg {s : ByteArray} {i x : Int} (h : ixB s i = some x) : 0 ≤ i ∧ i < (s.size : Int) ∧ ((s.data.getD i.toNat 0).toNat : Int) = x := by
  unfold ixB at h
  split at h
  · rename_i h0; injection h with h; exact ⟨h0.1,h0.2,h⟩
  · cases h
def rv (s : ByteArray) : List Int := s.data.toList.map fun b => (b.toNat : Int)
theorem bytesTV_L (s : ByteArray) : ej s = (rv s).map (TV.int .u8) := by unfold ej rv; rw [List.map_map]; rfl
theorem ap (s : ByteArray) : (rv s).length = s.size := by unfold rv; rw [List.length_map]; rfl
def zj (l : List Int) : ByteArray := ⟨(l.map fun n => UInt8.ofNat n.toNat).toArray⟩
theorem zaie : ∀ l : List Int,uc (l.map (TV.int .u8)) = some (l.map fun n => UInt8.ofNat n.toNat)
  | [] => rfl
  | n :: r => by simp only [List.map_cons,uc,zaie r,Option.map_some]
theorem strL_f (l : List Int) : (⟨(l.map fun n => UInt8.ofNat n.toNat).toArray⟩ : ByteArray) = zj l := rfl
theorem strO_L (τ : TH) (l : List Int) : strO τ (.sl (l.map (TV.int .u8))) = some (.str (zj l)) := by rw [za1e,zaie]; rfl
theorem strO_La (τ : TH) (k : Nat) (l : List Int) : strO τ (.sla k (l.map (TV.int .u8))) = some (.str (zj l)) := by rw [zauv,zaie]; rfl
theorem allc {α : Type} {enc : α → TV} {n : Nat} (h : ∀ x,((enc x).cells.length == n) = true) (l : List α) : ((l.map enc).all fun e => e.cells.length == n) = true := by
  rw [List.all_map,List.all_eq_true]; intro x _; exact h x
theorem allp {α : Type} {enc : α → TV} {n : Nat} (h : ∀ x,((enc x).cells.length == n && (enc x).pure) = true) (l : List α) : ((l.map enc).all fun e => e.cells.length == n && e.pure) = true := by
  rw [List.all_map,List.all_eq_true]; intro x _; exact h x
theorem app1 {α : Type} {enc : α → TV} (l : List α) (x : α) : l.map enc ++ [enc x] = (l ++ [x]).map enc := by rw [List.map_append]; rfl
theorem appn {α : Type} {enc : α → TV} (l k : List α) : l.map enc ++ k.map enc = (l ++ k).map enc := by rw [List.map_append]
theorem setm {α : Type} {enc : α → TV} (l : List α) (i : Nat) (x : α) : (l.map enc).set i (enc x) = (l.set i x).map enc := by rw [List.map_set]
theorem tdm {α : Type} {enc : α → TV} (l : List α) (i j : Nat) : ((l.map enc).take i).drop j = ((l.take i).drop j).map enc := by rw [List.map_drop,List.map_take]
theorem notE {α : Type} {enc : α → TV} {l : List α} (h : ¬ l = []) : (!(l.map enc).isEmpty) = true := by cases l with | nil => exact absurd rfl h | cons => rfl
theorem xa {τ : TH} {id : Nat} {b : Ob} (h : τ.at id = some b) : τ.put id b = τ := by
  unfold TH.put TH.at at *
  obtain ⟨hlt,hb⟩ := List.getElem?_eq_some_iff.1 h
  cases τ with
  | mk o lk =>
    simp only at *
    congr 1
    rw [← hb]
    exact List.set_getElem_self hlt
theorem pt_comm {a b : Nat} (h : a ≠ b) (τ : TH) (x y : Ob) : (τ.put b y).put a x = (τ.put a x).put b y := by
  unfold TH.put
  simp only
  congr 1
  exact List.set_comm _ _ (Ne.symm h)
theorem za2f {τ : TH} {m n : Nat} (h : n ≤ m) : (τ.cut m).cut n = τ.cut n := by unfold TH.cut; simp only [List.take_take,Nat.min_eq_left h]
theorem bq {τ f : TH} {m n : Nat} (h : τ.cut m = f) (hn : n ≤ m) : τ.cut n = f.cut n := by rw [← h,za2f hn]
theorem take_via {α : Type} {l f : List α} {m n : Nat} (h : l.take m = f) (hn : n ≤ m) : l.take n = f.take n := by rw [← h,List.take_take,Nat.min_eq_left hn]
theorem cut_put {τ : TH} {n id : Nat} {b : Ob} (h : id < n) : (τ.put id b).cut n = (τ.cut n).put id b := by
  unfold TH.cut TH.put
  simp only [List.take_set]
theorem za1o {α : Type} {enc : α → TV} (h : ∀ x n m,(enc x).lt n m = true) (n m : Nat) (l : List α) : ltL n m (List.map enc l) = true := by
  induction l with
  | nil => rfl
  | cons a r ih => simp only [List.map_cons,ltL,h,ih,Bool.and_self]
theorem zalg {α : Type} {enc : α → TV} (h : ∀ x n,(enc x).under n = true) (n : Nat) (l : List α) : fw n (List.map enc l) = true := by
  induction l with
  | nil => rfl
  | cons a r ih => simp only [List.map_cons,fw,h,ih,Bool.and_self]
theorem za1j {α : Type} {enc : α → TV} (h : ∀ x,(enc x).put = enc x) (l : List α) : List.map TV.put (List.map enc l) = List.map enc l := by
  rw [List.map_map]; congr 1; funext x; exact h x
theorem rd_map {α : Type} {enc : α → TV} (h : ∀ x,(enc x).rd = enc x) (l : List α) : List.map TV.rd (List.map enc l) = List.map enc l := by
  rw [List.map_map]; congr 1; funext x; exact h x
theorem zavv {α : Type} {enc : α → TV} (h : ∀ x,(enc x).canS = enc x) (l : List α) : List.map TV.canS (List.map enc l) = List.map enc l := by
  rw [List.map_map]; congr 1; funext x; exact h x
theorem za1m {α : Type} {enc : α → TV} (h : ∀ x,(enc x).one = true) (l : List α) : (List.map enc l).all TV.one = true := by
  rw [List.all_map,List.all_eq_true]; intro x _; exact h x
theorem LTM : ((∀ k n m l,ltL n m (List.map (TV.int k) l) = true) ∧ (∀ k n l,fw n (List.map (TV.int k) l) = true) ∧ (∀ k l,List.map TV.put (List.map (TV.int k) l) = List.map (TV.int k) l) ∧ (∀ k l,List.map TV.rd (List.map (TV.int k) l) = List.map (TV.int k) l) ∧ (∀ k l,List.map TV.canS (List.map (TV.int k) l) = List.map (TV.int k) l) ∧ (∀ k l,(List.map (TV.int k) l).all TV.one = true)) ∧
    ((∀ n m l,ltL n m (List.map TV.bool l) = true) ∧ (∀ n l,fw n (List.map TV.bool l) = true) ∧ (∀ l,List.map TV.put (List.map TV.bool l) = List.map TV.bool l) ∧ (∀ l,List.map TV.rd (List.map TV.bool l) = List.map TV.bool l) ∧ (∀ l,List.map TV.canS (List.map TV.bool l) = List.map TV.bool l) ∧ (∀ l,(List.map TV.bool l).all TV.one = true)) ∧
    ((∀ n m l,ltL n m (List.map TV.str l) = true) ∧ (∀ n l,fw n (List.map TV.str l) = true) ∧ (∀ l,List.map TV.put (List.map TV.str l) = List.map TV.str l) ∧ (∀ l,List.map TV.rd (List.map TV.str l) = List.map TV.str l) ∧ (∀ l,List.map TV.canS (List.map TV.str l) = List.map TV.str l) ∧ (∀ l,(List.map TV.str l).all TV.one = true)) :=
  ⟨⟨fun k => za1o fun _ _ _ => by simp [TV.lt],fun k => zalg fun _ _ => by simp [TV.under],fun k => za1j fun _ => rfl,fun k => rd_map fun _ => rfl,fun k => zavv fun _ => rfl,fun k => za1m fun _ => rfl⟩,
   ⟨za1o fun _ _ _ => by simp [TV.lt],zalg fun _ _ => by simp [TV.under],za1j fun _ => rfl,rd_map fun _ => rfl,zavv fun _ => rfl,za1m fun _ => rfl⟩,
   ⟨za1o fun _ _ _ => by simp [TV.lt],zalg fun _ _ => by simp [TV.under],za1j fun _ => rfl,rd_map fun _ => rfl,zavv fun _ => rfl,za1m fun _ => rfl⟩⟩
theorem tset_go : ∀ (vs cs pre : List TV),cs.length = vs.length → zaup (pre ++ cs) pre.length vs = pre ++ vs
  | [],cs,pre,h => by
    have : cs = [] := List.eq_nil_of_length_eq_zero h
    subst this; rfl
  | v :: r,[],pre,h => by cases h
  | v :: r,c :: cs,pre,h => by
    simp only [zaup]
    have e : (pre ++ c :: cs).set pre.length v = (pre ++ [v]) ++ cs := by simp
    have := tset_go r cs (pre ++ [v]) (by simpa using h)
    rw [e]
    simp only [List.length_append,List.length_cons,List.length_nil,Nat.zero_add] at this
    rw [this]; simp
theorem bb {α : Type} {enc : α → TV} {cs : List TV} {l : List α} (h : cs.length = l.length) : zaup cs 0 (List.map enc l) = List.map enc l := by
  have := tset_go (List.map enc l) cs [] (by simpa using h)
  simpa using this
theorem za5g {α : Type} {enc : α → TV} {l : List α} {n : Nat} (h : l.length = n) (hn : 0 < n) : (List.map enc l = []) = False := by
  refine eq_false fun h2 => ?_
  have := congrArg List.length h2
  simp at this
  rw [this] at h
  simp at h; omega
theorem zauu {α : Type} {enc : α → TV} {l : List α} {n : Nat} (h : l.length = n) : List.take n (List.map enc l) = List.map enc l := by
  rw [List.take_of_length_le]; simp [h]
theorem flat_rep {α : Type} {enc : α → TV} (n : Nat) (x : α) : (List.replicate n [enc x]).flatten = List.map enc (List.replicate n x) := by
  rw [List.map_replicate]
  induction n with
  | zero => rfl
  | succ n ih => rw [List.replicate_succ,List.flatten_cons,ih,List.replicate_succ]; rfl
theorem aw {Γ : FuncId → Option TG} {lk : Bool} {f : FuncId} {args : List TV} {r : TV} {d : Option Nat} {K : au} {fr : TF} {tk : TK} {τ : TH} (h0 : Ru Γ f args τ r τ) (h1 : Ru Γ f args (τ.locked τ.next) r (τ.locked τ.next)) (hu : fw τ.next args = true) :
    fv Γ lk f args d K fr tk τ = K (fu fr d r) tk τ := by
  cases lk
  · rw [zakp (lk := false) h0 hu]; rfl
  · rw [zakp (lk := true) h1 hu]; rfl
theorem callK_wr {Γ : FuncId → Option TG} {f : FuncId} {args : List TV} {r : TV} {d : Option Nat} {K : au} {fr : TF} {tk : TK} {τ τ' : TH} (h0 : Ru Γ f args τ r τ') (hu : fw τ.next args = true) :
    fv Γ false f args d K fr tk τ = K (fu fr d r) tk τ' := by
  rw [zakp (lk := false) h0 hu]; rfl
theorem ifS {c : Prop} [Decidable c] {α : Type} {x : Option α} {r : α} (h : (if c then x else none) = some r) : c ∧ x = some r := by
  by_cases hc : c
  · rw [if_pos hc] at h; exact ⟨hc,h⟩
  · rw [if_neg hc] at h; cases h
theorem nq {a b : Nat} (h : a ≠ b) : ((a = b) = False) ∧ ((b = a) = False) ∧ (∀ (τ : TH) (x y : Ob),(τ.put b y).put a x = (τ.put a x).put b y) := ⟨eq_false h,eq_false (Ne.symm h),pt_comm h⟩
theorem tbS : (∀ a : Int,Option.map (fun bs => TV.str ⟨bs.toArray⟩) (uc [.int .u8 a]) = some (TV.str (zj [a]))) ∧ (∀ a b : Int,Option.map (fun bs => TV.str ⟨bs.toArray⟩) (uc [.int .u8 a,.int .u8 b]) = some (TV.str (zj [a,b]))) ∧ (∀ a b c : Int,Option.map (fun bs => TV.str ⟨bs.toArray⟩) (uc [.int .u8 a,.int .u8 b,.int .u8 c]) = some (TV.str (zj [a,b,c]))) ∧ (∀ a b c d : Int,Option.map (fun bs => TV.str ⟨bs.toArray⟩) (uc [.int .u8 a,.int .u8 b,.int .u8 c,.int .u8 d]) = some (TV.str (zj [a,b,c,d]))) := ⟨fun _ => rfl,fun _ _ => rfl,fun _ _ _ => rfl,fun _ _ _ _ => rfl⟩
theorem LTN : type_of% (And.intro LTM (And.intro tbS (And.intro @zaie @strL_f))) := And.intro LTM (And.intro tbS (And.intro @zaie @strL_f))
theorem MC : (∀ {α β : Type} (f : α → β) (a : α) (l : List α),List.map f (a :: l) = f a :: List.map f l) ∧ (∀ {α β : Type} (f : α → β),List.map f [] = []) ∧ (∀ n : Nat,((n : Int)).toNat = n) := ⟨fun _ _ _ => rfl,fun _ => rfl,fun _ => rfl⟩
end Go.Proofs.Ytdcfoaafkppojaa.Sh
