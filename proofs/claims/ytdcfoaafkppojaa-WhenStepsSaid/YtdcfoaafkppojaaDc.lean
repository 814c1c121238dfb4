/- What the printed functions are made of: partial answers, loops, reads; how the tree level reads the same. -/
import Derived.Test.YtdcfoaafkppojaaTv10
set_option linter.unusedVariables false
set_option linter.unusedSimpArgs false
namespace Go.Proofs.Ytdcfoaafkppojaa.Sh
open Go Go.RowKit
theorem ob {α β : Type} {x : Option α} {f : α → Option β} {r : β} (h : (x >>= f) = some r) : ∃ a,x = some a ∧ f a = some r := Option.bind_eq_some_iff.1 h
theorem obs {α β : Type} {a : α} {f : α → Option β} : (some a >>= f) = f a := rfl
theorem obn {α β : Type} {f : α → Option β} : ((none : Option α) >>= f) = none := rfl
inductive LX (α β : Type) where
  | ex (a : α)
  | rt (b : β)
inductive LS (σ ρ : Type) where
  | nx (s : σ)
  | dn (r : ρ)
def iterN {σ ρ : Type} (f : σ → Option (LS σ ρ)) : Nat → σ → Option ρ
  | 0,_ => none
  | n + 1,s => match f s with
    | some (.nx s') => iterN f n s'
    | some (.dn r) => some r
    | none => none
theorem iterN_mono {σ ρ : Type} {f : σ → Option (LS σ ρ)} : ∀ {n m : Nat} {s : σ} {r : ρ},n ≤ m → iterN f n s = some r → iterN f m s = some r
  | 0,_,_,_,_,h => by cases h
  | n + 1,0,_,_,h,_ => by omega
  | n + 1,m + 1,s,r,hle,h => by
    simp only [iterN] at h ⊢
    cases hf : f s with
    | none => rw [hf] at h; cases h
    | some o =>
      rw [hf] at h
      cases o with
      | nx s' => exact iterN_mono (by omega) h
      | dn r' => exact h
open Classical in
noncomputable def iterO {σ ρ : Type} (f : σ → Option (LS σ ρ)) (s : σ) : Option ρ := if h : ∃ r n,iterN f n s = some r then some h.choose else none
theorem iterO_iff {σ ρ : Type} {f : σ → Option (LS σ ρ)} {s : σ} {r : ρ} : iterO f s = some r ↔ ∃ n,iterN f n s = some r := by
  unfold iterO
  constructor
  · intro h
    split at h
    · rename_i hx
      injection h with h
      obtain ⟨n,hn⟩ := hx.choose_spec
      exact ⟨n,by rw [hn,h]⟩
    · cases h
  · rintro ⟨n,hn⟩
    have hx : ∃ r n,iterN f n s = some r := ⟨r,n,hn⟩
    rw [dif_pos hx]
    obtain ⟨m,hm⟩ := hx.choose_spec
    have h1 := iterN_mono (Nat.le_max_left n m) hn
    have h2 := iterN_mono (Nat.le_max_right n m) hm
    rw [h1] at h2
    exact h2.symm
def LS.go {σ ρ : Type} (f : σ → Option ρ) : LS σ ρ → Option ρ
  | .nx s => f s
  | .dn r => some r
theorem go_nx {σ ρ : Type} (f : σ → Option ρ) (s : σ) : LS.go f (.nx s) = f s := rfl
theorem go_dn {σ ρ : Type} (f : σ → Option ρ) (r : ρ) : LS.go f (.dn r : LS σ ρ) = some r := rfl
theorem iterO_eq {σ ρ : Type} (f : σ → Option (LS σ ρ)) (s : σ) : iterO f s = f s >>= LS.go (iterO f) := by
  cases hf : f s with
  | none =>
    cases h : iterO f s with
    | none => rfl
    | some r =>
      obtain ⟨n,hn⟩ := iterO_iff.1 h
      cases n with
      | zero => cases hn
      | succ n => simp only [iterN,hf] at hn; cases hn
  | some o =>
    cases o with
    | dn r => exact iterO_iff.2 ⟨1,by simp only [iterN,hf]⟩
    | nx s' =>
      show iterO f s = iterO f s'
      cases h : iterO f s' with
      | some r =>
        obtain ⟨n,hn⟩ := iterO_iff.1 h
        exact iterO_iff.2 ⟨n + 1,by simp only [iterN,hf]; exact hn⟩
      | none =>
        cases h2 : iterO f s with
        | none => rfl
        | some r =>
          obtain ⟨n,hn⟩ := iterO_iff.1 h2
          cases n with
          | zero => cases hn
          | succ n =>
            simp only [iterN,hf] at hn
            rw [iterO_iff.2 ⟨n,hn⟩] at h
            cases h
theorem iterO_ind {σ ρ : Type} {f : σ → Option (LS σ ρ)} {P : σ → ρ → Prop} (h : ∀ s o,f s = some o → ∀ r,(match o with | .nx s' => P s' r | .dn r' => r' = r) → P s r) {s : σ} {r : ρ} (hr : iterO f s = some r) : P s r := by
  obtain ⟨n,hn⟩ := iterO_iff.1 hr
  clear hr
  induction n generalizing s with
  | zero => cases hn
  | succ n ih =>
    simp only [iterN] at hn
    cases hf : f s with
    | none => rw [hf] at hn; cases hn
    | some o =>
      rw [hf] at hn
      cases o with
      | nx s' => exact h s _ hf r (ih hn)
      | dn r' => injection hn with hn; exact h s _ hf r hn
def ixL {α : Type} (l : List α) (i : Int) : Option α := if 0 ≤ i then l[i.toNat]? else none
theorem ixL_facts {α : Type} {l : List α} {i : Int} {x : α} (h : ixL l i = some x) : 0 ≤ i ∧ i < (l.length : Int) ∧ ∀ (enc : α → TV),(l.map enc).getD i.toNat .undef = enc x ∧ (l.map enc)[i.toNat]? = some (enc x) := by
  unfold ixL at h
  split at h
  · rename_i h0
    obtain ⟨hlt,hx⟩ := List.getElem?_eq_some_iff.1 h
    refine ⟨h0,by omega,fun enc => ?_⟩
    have : (l.map enc)[i.toNat]? = some (enc x) := by rw [List.getElem?_map,h]; rfl
    exact ⟨by rw [List.getD_eq_getElem?_getD,this]; rfl,this⟩
  · cases h
theorem ixL_nat {α : Type} {l : List α} {i : Nat} (h : i < l.length) : ixL l (i : Int) = some l[i] := by
  unfold ixL
  rw [if_pos (by omega),Int.toNat_natCast,List.getElem?_eq_getElem h]
def ixB (s : ByteArray) (i : Int) : Option Int := if 0 ≤ i ∧ i < (s.size : Int) then some ((s.data.getD i.toNat 0).toNat : Int) else none
theorem ixB_facts {s : ByteArray} {i x : Int} (h : ixB s i = some x) : 0 ≤ i ∧ i < (s.size : Int) ∧ ((s.data.getD i.toNat 0).toNat : Int) = x := by
  unfold ixB at h
  split at h
  · rename_i h0; injection h with h; exact ⟨h0.1,h0.2,h⟩
  · cases h
def bytesL (s : ByteArray) : List Int := s.data.toList.map fun b => (b.toNat : Int)
theorem bytesTV_L (s : ByteArray) : bytesTV s = (bytesL s).map (TV.int .u8) := by unfold bytesTV bytesL; rw [List.map_map]; rfl
theorem bytesL_len (s : ByteArray) : (bytesL s).length = s.size := by unfold bytesL; rw [List.length_map]; rfl
def strL (l : List Int) : ByteArray := ⟨(l.map fun n => UInt8.ofNat n.toNat).toArray⟩
theorem tbytes_L : ∀ l : List Int,tbytes (l.map (TV.int .u8)) = some (l.map fun n => UInt8.ofNat n.toNat)
  | [] => rfl
  | n :: r => by simp only [List.map_cons,tbytes,tbytes_L r,Option.map_some]
theorem strL_f (l : List Int) : (⟨(l.map fun n => UInt8.ofNat n.toNat).toArray⟩ : ByteArray) = strL l := rfl
theorem strO_L (τ : TH) (l : List Int) : strO τ (.sl (l.map (TV.int .u8))) = some (.str (strL l)) := by rw [strO_sl,tbytes_L]; rfl
theorem strO_La (τ : TH) (k : Nat) (l : List Int) : strO τ (.sla k (l.map (TV.int .u8))) = some (.str (strL l)) := by rw [strO_sla,tbytes_L]; rfl
theorem allc {α : Type} {enc : α → TV} {n : Nat} (h : ∀ x,((enc x).cells.length == n) = true) (l : List α) : ((l.map enc).all fun e => e.cells.length == n) = true := by
  rw [List.all_map,List.all_eq_true]; intro x _; exact h x
theorem allp {α : Type} {enc : α → TV} {n : Nat} (h : ∀ x,((enc x).cells.length == n && (enc x).pure) = true) (l : List α) : ((l.map enc).all fun e => e.cells.length == n && e.pure) = true := by
  rw [List.all_map,List.all_eq_true]; intro x _; exact h x
theorem app1 {α : Type} {enc : α → TV} (l : List α) (x : α) : l.map enc ++ [enc x] = (l ++ [x]).map enc := by rw [List.map_append]; rfl
theorem appn {α : Type} {enc : α → TV} (l k : List α) : l.map enc ++ k.map enc = (l ++ k).map enc := by rw [List.map_append]
theorem setm {α : Type} {enc : α → TV} (l : List α) (i : Nat) (x : α) : (l.map enc).set i (enc x) = (l.set i x).map enc := by rw [List.map_set]
theorem tdm {α : Type} {enc : α → TV} (l : List α) (i j : Nat) : ((l.map enc).take i).drop j = ((l.take i).drop j).map enc := by rw [List.map_drop,List.map_take]
theorem notE {α : Type} {enc : α → TV} {l : List α} (h : ¬ l = []) : (!(l.map enc).isEmpty) = true := by cases l with | nil => exact absurd rfl h | cons => rfl
theorem put_same {τ : TH} {id : Nat} {b : Ob} (h : τ.at id = some b) : τ.put id b = τ := by
  unfold TH.put TH.at at *
  obtain ⟨hlt,hb⟩ := List.getElem?_eq_some_iff.1 h
  cases τ with
  | mk o lk =>
    simp only at *
    congr 1
    rw [← hb]
    exact List.set_getElem_self hlt
theorem pt_comm {a b : Nat} (h : a ≠ b) (τ : TH) (x y : Ob) : (τ.put b y).put a x = (τ.put a x).put b y := by
  unfold TH.put
  simp only
  congr 1
  exact List.set_comm _ _ (Ne.symm h)
theorem cut_cut {τ : TH} {m n : Nat} (h : n ≤ m) : (τ.cut m).cut n = τ.cut n := by unfold TH.cut; simp only [List.take_take,Nat.min_eq_left h]
theorem cut_via {τ f : TH} {m n : Nat} (h : τ.cut m = f) (hn : n ≤ m) : τ.cut n = f.cut n := by rw [← h,cut_cut hn]
theorem take_via {α : Type} {l f : List α} {m n : Nat} (h : l.take m = f) (hn : n ≤ m) : l.take n = f.take n := by rw [← h,List.take_take,Nat.min_eq_left hn]
theorem cut_put {τ : TH} {n id : Nat} {b : Ob} (h : id < n) : (τ.put id b).cut n = (τ.cut n).put id b := by
  unfold TH.cut TH.put
  simp only [List.take_set]
theorem ltL_map {α : Type} {enc : α → TV} (h : ∀ x n m,(enc x).lt n m = true) (n m : Nat) (l : List α) : ltL n m (List.map enc l) = true := by
  induction l with
  | nil => rfl
  | cons a r ih => simp only [List.map_cons,ltL,h,ih,Bool.and_self]
theorem underL_map {α : Type} {enc : α → TV} (h : ∀ x n,(enc x).under n = true) (n : Nat) (l : List α) : underL n (List.map enc l) = true := by
  induction l with
  | nil => rfl
  | cons a r ih => simp only [List.map_cons,underL,h,ih,Bool.and_self]
theorem put_map {α : Type} {enc : α → TV} (h : ∀ x,(enc x).put = enc x) (l : List α) : List.map TV.put (List.map enc l) = List.map enc l := by
  rw [List.map_map]; congr 1; funext x; exact h x
theorem rd_map {α : Type} {enc : α → TV} (h : ∀ x,(enc x).rd = enc x) (l : List α) : List.map TV.rd (List.map enc l) = List.map enc l := by
  rw [List.map_map]; congr 1; funext x; exact h x
theorem canS_map {α : Type} {enc : α → TV} (h : ∀ x,(enc x).canS = enc x) (l : List α) : List.map TV.canS (List.map enc l) = List.map enc l := by
  rw [List.map_map]; congr 1; funext x; exact h x
theorem one_map {α : Type} {enc : α → TV} (h : ∀ x,(enc x).one = true) (l : List α) : (List.map enc l).all TV.one = true := by
  rw [List.all_map,List.all_eq_true]; intro x _; exact h x
theorem LTM : ((∀ k n m l,ltL n m (List.map (TV.int k) l) = true) ∧ (∀ k n l,underL n (List.map (TV.int k) l) = true) ∧ (∀ k l,List.map TV.put (List.map (TV.int k) l) = List.map (TV.int k) l) ∧ (∀ k l,List.map TV.rd (List.map (TV.int k) l) = List.map (TV.int k) l) ∧ (∀ k l,List.map TV.canS (List.map (TV.int k) l) = List.map (TV.int k) l) ∧ (∀ k l,(List.map (TV.int k) l).all TV.one = true)) ∧
    ((∀ n m l,ltL n m (List.map TV.bool l) = true) ∧ (∀ n l,underL n (List.map TV.bool l) = true) ∧ (∀ l,List.map TV.put (List.map TV.bool l) = List.map TV.bool l) ∧ (∀ l,List.map TV.rd (List.map TV.bool l) = List.map TV.bool l) ∧ (∀ l,List.map TV.canS (List.map TV.bool l) = List.map TV.bool l) ∧ (∀ l,(List.map TV.bool l).all TV.one = true)) ∧
    ((∀ n m l,ltL n m (List.map TV.str l) = true) ∧ (∀ n l,underL n (List.map TV.str l) = true) ∧ (∀ l,List.map TV.put (List.map TV.str l) = List.map TV.str l) ∧ (∀ l,List.map TV.rd (List.map TV.str l) = List.map TV.str l) ∧ (∀ l,List.map TV.canS (List.map TV.str l) = List.map TV.str l) ∧ (∀ l,(List.map TV.str l).all TV.one = true)) :=
  ⟨⟨fun k => ltL_map fun _ _ _ => by simp [TV.lt],fun k => underL_map fun _ _ => by simp [TV.under],fun k => put_map fun _ => rfl,fun k => rd_map fun _ => rfl,fun k => canS_map fun _ => rfl,fun k => one_map fun _ => rfl⟩,
   ⟨ltL_map fun _ _ _ => by simp [TV.lt],underL_map fun _ _ => by simp [TV.under],put_map fun _ => rfl,rd_map fun _ => rfl,canS_map fun _ => rfl,one_map fun _ => rfl⟩,
   ⟨ltL_map fun _ _ _ => by simp [TV.lt],underL_map fun _ _ => by simp [TV.under],put_map fun _ => rfl,rd_map fun _ => rfl,canS_map fun _ => rfl,one_map fun _ => rfl⟩⟩
theorem tset_go : ∀ (vs cs pre : List TV),cs.length = vs.length → tset (pre ++ cs) pre.length vs = pre ++ vs
  | [],cs,pre,h => by
    have : cs = [] := List.eq_nil_of_length_eq_zero h
    subst this; rfl
  | v :: r,[],pre,h => by cases h
  | v :: r,c :: cs,pre,h => by
    simp only [tset]
    have e : (pre ++ c :: cs).set pre.length v = (pre ++ [v]) ++ cs := by simp
    have := tset_go r cs (pre ++ [v]) (by simpa using h)
    rw [e]
    simp only [List.length_append,List.length_cons,List.length_nil,Nat.zero_add] at this
    rw [this]; simp
theorem tset_all {α : Type} {enc : α → TV} {cs : List TV} {l : List α} (h : cs.length = l.length) : tset cs 0 (List.map enc l) = List.map enc l := by
  have := tset_go (List.map enc l) cs [] (by simpa using h)
  simpa using this
theorem map_ne {α : Type} {enc : α → TV} {l : List α} {n : Nat} (h : l.length = n) (hn : 0 < n) : (List.map enc l = []) = False := by
  refine eq_false fun h2 => ?_
  have := congrArg List.length h2
  simp at this
  rw [this] at h
  simp at h; omega
theorem take_map {α : Type} {enc : α → TV} {l : List α} {n : Nat} (h : l.length = n) : List.take n (List.map enc l) = List.map enc l := by
  rw [List.take_of_length_le]; simp [h]
theorem flat_rep {α : Type} {enc : α → TV} (n : Nat) (x : α) : (List.replicate n [enc x]).flatten = List.map enc (List.replicate n x) := by
  rw [List.map_replicate]
  induction n with
  | zero => rfl
  | succ n ih => rw [List.replicate_succ,List.flatten_cons,ih,List.replicate_succ]; rfl
theorem callK_rdo {Γ : FuncId → Option TG} {lk : Bool} {f : FuncId} {args : List TV} {r : TV} {d : Option Nat} {K : TCont} {fr : TF} {tk : TK} {τ : TH} (h0 : Ru Γ f args τ r τ) (h1 : Ru Γ f args (τ.locked τ.next) r (τ.locked τ.next)) (hu : underL τ.next args = true) :
    callK Γ lk f args d K fr tk τ = K (tput fr d r) tk τ := by
  cases lk
  · rw [callK_of (lk := false) h0 hu]; rfl
  · rw [callK_of (lk := true) h1 hu]; rfl
theorem callK_wr {Γ : FuncId → Option TG} {f : FuncId} {args : List TV} {r : TV} {d : Option Nat} {K : TCont} {fr : TF} {tk : TK} {τ τ' : TH} (h0 : Ru Γ f args τ r τ') (hu : underL τ.next args = true) :
    callK Γ false f args d K fr tk τ = K (tput fr d r) tk τ' := by
  rw [callK_of (lk := false) h0 hu]; rfl
theorem ifS {c : Prop} [Decidable c] {α : Type} {x : Option α} {r : α} (h : (if c then x else none) = some r) : c ∧ x = some r := by
  by_cases hc : c
  · rw [if_pos hc] at h; exact ⟨hc,h⟩
  · rw [if_neg hc] at h; cases h
theorem nq {a b : Nat} (h : a ≠ b) : ((a = b) = False) ∧ ((b = a) = False) ∧ (∀ (τ : TH) (x y : Ob),(τ.put b y).put a x = (τ.put a x).put b y) := ⟨eq_false h,eq_false (Ne.symm h),pt_comm h⟩
theorem tbS : (∀ a : Int,Option.map (fun bs => TV.str ⟨bs.toArray⟩) (tbytes [.int .u8 a]) = some (TV.str (strL [a]))) ∧ (∀ a b : Int,Option.map (fun bs => TV.str ⟨bs.toArray⟩) (tbytes [.int .u8 a,.int .u8 b]) = some (TV.str (strL [a,b]))) ∧ (∀ a b c : Int,Option.map (fun bs => TV.str ⟨bs.toArray⟩) (tbytes [.int .u8 a,.int .u8 b,.int .u8 c]) = some (TV.str (strL [a,b,c]))) ∧ (∀ a b c d : Int,Option.map (fun bs => TV.str ⟨bs.toArray⟩) (tbytes [.int .u8 a,.int .u8 b,.int .u8 c,.int .u8 d]) = some (TV.str (strL [a,b,c,d]))) := ⟨fun _ => rfl,fun _ _ => rfl,fun _ _ _ => rfl,fun _ _ _ _ => rfl⟩
theorem LTN : type_of% (And.intro LTM (And.intro tbS (And.intro @tbytes_L @strL_f))) := And.intro LTM (And.intro tbS (And.intro @tbytes_L @strL_f))
theorem MC : (∀ {α β : Type} (f : α → β) (a : α) (l : List α),List.map f (a :: l) = f a :: List.map f l) ∧ (∀ {α β : Type} (f : α → β),List.map f [] = []) ∧ (∀ n : Nat,((n : Int)).toNat = n) := ⟨fun _ _ _ => rfl,fun _ => rfl,fun _ => rfl⟩
end Go.Proofs.Ytdcfoaafkppojaa.Sh
