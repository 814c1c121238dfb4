/- The tree level: objects written, leaves handed over. -/
import Derived.Test.YtdcfoaafkppojaaTv4
set_option linter.unusedVariables false
set_option linter.unusedSimpArgs false
namespace Go.Proofs.Ytdcfoaafkppojaa.Sh
open Go Go.RowKit
theorem set_set (σ : ak) (g : Nat) (b c : Blk) : (σ.set g b).set g c = σ.set g c := by
  unfold ak.set
  congr 1
  funext j
  by_cases h : j = g <;> simp [h]
theorem zahl {σ : ak} {g : Nat} {t : TypeId} : ∀ (vs cs : List Value) (o : Nat),σ.at g = .cells t cs .rw → o + vs.length ≤ cs.length → (∀ v ∈ vs,scalar v = true) → vs ≠ [] → σ.store g o vs = some (σ.set g (.cells t (jh cs o vs) .rw))
  | [],_,_,_,_,_,h => (h rfl).elim
  | v :: r,cs,o,h,hl,hs,_ => by
    have hlt : g < σ.next := ak.lt_of_at (by rw [h]; rfl)
    have h1 : σ.store1 g o v = some (σ.set g (.cells t (cs.set o v) .rw)) := by
      unfold ak.store1
      rw [h]
      have : o < cs.length := by simp at hl; omega
      simp [this,hs v (by simp)]
    simp only [ak.store,h1,Option.bind_some]
    cases r with
    | nil => simp [ak.store,jh]
    | cons v2 r2 =>
      have := zahl (σ := σ.set g (.cells t (cs.set o v) .rw)) (g := g) (t := t) (v2 :: r2) (cs.set o v) (o + 1) (σ.at_set_same _ hlt) (by simp at hl ⊢; omega) (fun u hu => hs u (List.mem_cons_of_mem _ hu)) (by simp)
      rw [this,set_set]
      rfl
theorem zao5 : ∀ (vs cs : List TV) (off : Nat),(zaup cs off vs).length = cs.length
  | [],_,_ => rfl
  | v :: r,cs,off => by simp only [zaup]; rw [zao5 r]; simp
theorem zawl : ∀ (vs cs : List TV) (off j : Nat),(zaup cs off vs).getD j .undef = if off ≤ j ∧ j < off + vs.length ∧ j < cs.length then vs.getD (j - off) .undef else cs.getD j .undef
  | [],cs,off,j => by rw [if_neg (by simp; omega)]; rfl
  | v :: r,cs,off,j => by
    simp only [zaup]
    rw [zawl r]
    simp only [List.length_set,List.length_cons]
    by_cases h1 : off + 1 ≤ j ∧ j < off + 1 + r.length ∧ j < cs.length
    · rw [if_pos h1,if_pos (by omega)]
      have : j - off = (j - (off + 1)) + 1 := by omega
      rw [this]; rfl
    · rw [if_neg h1]
      by_cases h2 : j = off ∧ j < cs.length
      · obtain ⟨rfl,h2⟩ := h2
        rw [if_pos (by omega)]
        simp [List.getD_eq_getElem?_getD,h2]
      · rw [if_neg (by omega)]
        by_cases h3 : j = off
        · subst h3
          have : cs.length ≤ j := by omega
          simp [List.getD_eq_getElem?_getD,this]
        · simp [List.getD_eq_getElem?_getD,List.getElem?_set,Ne.symm h3]
section
variable {P : Program} {B : Bs} {e e' : Env} {fr : TF} {tk tk' : TK} {τ τ' : TH} {fr' : Fr} {σ σ' : ak}
theorem az {τ : TH} {id : Nat} {b : Ob} : (τ.put id b).next = τ.next := by simp [TH.put,TH.next]
theorem vp {τ : TH} {id : Nat} {b : Ob} (h : id < τ.next) : (τ.put id b).at id = some b := by simp only [TH.put,TH.at,TH.next] at *; simp [h]
theorem yz {τ : TH} {id k : Nat} {b : Ob} (h : k ≠ id) : (τ.put id b).at k = τ.at k := by simp only [TH.put,TH.at]; rw [List.getElem?_set_ne (Ne.symm h)]
theorem St.storeOb (h : St B e fr tk τ fr' σ) {id off : Nat} {b : Ob} (hat : τ.at id = some b) (hid : id < τ.next) {who : Nat → Own} {vs : List TV} {ws : List Value} (hne : ws ≠ []) (hl : vs.length = ws.length) (hle : off + vs.length ≤ b.cs.length)
    (w1 : ∀ g i,e.who g = .obj i → who g = .obj i) (w2 : ∀ g i j,e.who g = .cell i j → (i ≠ id ∨ ¬ (off ≤ j ∧ j < off + vs.length)) → who g = .cell i j)
    (w3 : ∀ g,who g ≠ .none → e.who g ≠ .none) (w4 : ∀ g,(who g).mine B.lo → (e.who g).mine B.lo) (w5 : ∀ g,¬ (e.who g).mine B.lo → who g = e.who g) (w6 : ∀ g i,(who g = .obj i ∨ ∃ j,who g = .cell i j) → i < e.n) (hlo : B.lo ≤ id)
    (tl : ∀ i,i < tk.length → i < tk'.length) (tt : ∀ i n' t',i < tk.length → tk'[i]? = some (some (n',t')) → ∃ n t,tk[i]? = some (some (n,t)) ∧ ((n = n' ∧ (t = t' ∨ n = 0) ∧ ∀ g,e.who g = .tok i → who g = .tok i) ∨ n < n'))
    (hc : ∀ σ',zg σ σ' → (∀ g,g ≠ e.b id → σ'.at g = σ.at g) → ∀ j,j < vs.length → CR σ' ⟨e.b,e.n,who⟩ id (off + j) (vs.getD j .undef) (ws.getD j undef)) :
    ∃ σ',σ.store (e.b id) off ws = some σ' ∧ St B ⟨e.b,e.n,who⟩ fr tk' (τ.put id ⟨b.t,zaup b.cs off vs⟩) fr' σ' ∧ Chg (· = id) e σ ⟨e.b,e.n,who⟩ σ' := by
  obtain ⟨b',hb',ho⟩ := h.ob id hid
  rw [hat] at hb'; injection hb' with hb'; subst hb'
  obtain ⟨hwho,ds,h1,h2,h3⟩ := ho.live (fun h0 => hne (by rw [h0] at hle; exact List.eq_nil_of_length_eq_zero (by rw [← hl]; have : off + vs.length ≤ 0 := hle; omega)))
  have hlt : e.b id < σ.next := ak.lt_of_at (by rw [h1]; rfl)
  have oat : ∀ g,g ≠ e.b id → (σ.set (e.b id) (.cells b.t (jh ds off ws) .rw)).at g = σ.at g := fun g hg => σ.at_set_ne _ hg
  have hk : zg σ (σ.set (e.b id) (.cells b.t (jh ds off ws) .rw)) := fun g t cs md hg hm => by
    have : g ≠ e.b id := by rintro rfl; rw [h1] at hg; cases hg; exact hm rfl
    exact ⟨md,hm,by rw [oat g this]; exact hg⟩
  have hc := hc _ hk oat
  have hsc : ∀ v ∈ ws,scalar v = true := fun v hv => by
    obtain ⟨j,hj,rfl⟩ := List.mem_iff_getElem.1 hv
    have := zad9 (hc j (by omega))
    rwa [jo (List.getElem?_eq_getElem hj)] at this
  have nb : ∀ g,e.who g ≠ .none → (∀ i,e.who g ≠ .obj i) → g ≠ e.b id := fun g h1 h2 => by rintro rfl; exact h2 id hwho
  have binj : ∀ i,e.who (e.b i) = .obj i → i ≠ id → e.b i ≠ e.b id := fun i hi hn he => by
    have := hi
    rw [he,hwho] at this
    injection this with this
    exact hn this.symm
  refine ⟨_,zahl ws ds off h1 (by omega) hsc hne,?_,hk,Nat.le_refl _,Nat.le_refl _,fun _ _ => rfl,fun i hi q hn => oat _ (binj i q hn)⟩
  refine h.step ⟨hk,Nat.le_refl _,fun _ _ => rfl,tl,fun i n' t' hi hn => ?_⟩ (Nat.le_refl _) (fun g hg hm => ?_) (by rw [az]; exact h.n) rfl (fun g hg => h.mine g (w4 g hg)) (fun g hg => h.wlt g (w3 g hg)) w6 (fun g _ hg => w5 g hg) (fun i hi => ?_)
  · obtain ⟨n,t,q1,q2⟩ := tt i n' t' hi hn
    refine ⟨n,t,q1,q2.imp (fun ⟨q2,q3,q4⟩ => ⟨q2,q3,fun g hg => ⟨q4 g hg,oat g (nb g (by rw [hg]; simp) (fun i => by rw [hg]; simp))⟩⟩) fun q => q⟩
  · have : g ≠ e.b id := by rintro rfl; exact hm (by rw [hwho]; exact hlo)
    exact zal7 this
  · rw [az] at hi
    have cellp : ∀ g i' j',e.who g = .cell i' j' → (i' ≠ id ∨ ¬ (off ≤ j' ∧ j' < off + vs.length)) → who g = .cell i' j' ∧ (σ.set (e.b id) (.cells b.t (jh ds off ws) .rw)).at g = σ.at g := fun g i' j' hg hn =>
      ⟨w2 g i' j' hg hn,oat g (nb g (by rw [hg]; simp) (fun i => by rw [hg]; simp))⟩
    by_cases hin : i = id
    · subst hin
      refine ⟨_,vp hi,.inr ⟨w1 _ _ hwho,_,σ.at_set_same _ hlt,by rw [gu,zao5]; exact h2,fun j hj => ?_⟩⟩
      rw [gu] at hj
      rw [zawl,rj]
      have key : CR (σ.set (e.b i) (.cells b.t (jh ds off ws) .rw)) ⟨e.b,e.n,who⟩ i j (if off ≤ j ∧ j < off + vs.length ∧ j < b.cs.length then vs.getD (j - off) .undef else b.cs.getD j .undef)
          (if off ≤ j ∧ j < off + ws.length ∧ j < ds.length then ws.getD (j - off) undef else ds.getD j undef) := by
        by_cases hr : off ≤ j ∧ j < off + vs.length
        · rw [if_pos (by omega),if_pos (by omega)]
          have := hc (j - off) (by omega)
          rwa [show off + (j - off) = j by omega] at this
        · rw [if_neg (by omega),if_neg (by omega)]
          exact CR.step (e := e) hk (fun _ _ => rfl) (by have := h.n; simp only; omega) (fun g hg => cellp g i j hg (.inr hr)) (h3 j hj).1
      exact ⟨key,zad9 key⟩
    · obtain ⟨b2,q1,q2⟩ := h.ob i hi
      refine ⟨b2,by rw [yz hin]; exact q1,zaru.step (e := e) hk (fun _ _ => rfl) (by have := h.n; simp only; omega) (fun q => oat _ (binj i q hin)) (fun q => w1 _ _ q) (fun g j hg => cellp g i j hg (.inl hin)) q2⟩
theorem St.take (h : St B e fr tk τ fr' σ) {id off : Nat} {b : Ob} {t : TypeId} {l : List TV} (hat : τ.at id = some b) (hid : id < τ.next) (hc : b.cs[off]? = some (.slo t l)) (hlo : B.lo ≤ id) :
    ∃ w e',σ.load (e.b id) off = some w ∧ St B e' fr (tk ++ [some (l.length,t)]) (τ.put id ⟨b.t,b.cs.set off (.sl l)⟩) fr' σ ∧ TR σ e' (tk ++ [some (l.length,t)]) (.sla tk.length l) w ∧ Chg (· = id) e σ e' σ := by
  obtain ⟨b',hb',ho⟩ := h.ob id hid
  rw [hat] at hb'; injection hb' with hb'; subst hb'
  have hlt := ym hc
  obtain ⟨hwho,ds,h1,h2,h3⟩ := ho.live (fun h0 => by rw [h0] at hlt; cases hlt)
  have hcell := (h3 off (by omega)).1
  rw [jo hc] at hcell
  obtain ⟨hp,hlk⟩ := hcell
  refine ⟨ds.getD off undef,⟨e.b,e.n,fun g => match e.who g with | .cell i j => if i = id ∧ j = off then .tok tk.length else .cell i j | o => o⟩,by unfold ak.load; rw [h1]; exact zaki _ (by omega),?_,?_,Chg.mk (.refl _) (Nat.le_refl _) (Nat.le_refl _) (fun _ _ => rfl) (fun _ _ _ _ => rfl)⟩
  · have wc : ∀ g i j,e.who g = .cell i j → ¬ (i = id ∧ j = off) → (match e.who g with | .cell i j => if i = id ∧ j = off then Own.tok tk.length else .cell i j | o => o) = .cell i j := fun g i j hg hn => by rw [hg]; simp only; rw [if_neg hn]
    have wo : ∀ g,(∀ i j,e.who g ≠ .cell i j) → (match e.who g with | .cell i j => if i = id ∧ j = off then Own.tok tk.length else .cell i j | o => o) = e.who g := fun g hg => by
      cases hq : e.who g with
      | cell i j => exact absurd hq (hg i j)
      | _ => rfl
    refine h.step ⟨.refl _,Nat.le_refl _,fun _ _ => rfl,fun i hi => by simp; omega,fun i n t hi hn => ?_⟩ (Nat.le_refl _) (fun _ _ _ => rfl) (by rw [az]; exact h.n) rfl (fun g hg => ?_) (fun g hg => ?_) (fun g i hg => ?_) (fun g _ hg => ?_) (fun i hi => ?_)
    · rw [List.getElem?_append_left hi] at hn
      exact ⟨n,t,hn,.inl ⟨rfl,.inl rfl,fun g hg => ⟨by simp only; rw [wo g (by rw [hg]; simp)]; exact hg,rfl⟩⟩⟩
    · refine h.mine g ?_
      cases hq : e.who g with
      | cell i j =>
        simp only [hq] at hg
        split at hg
        · rename_i hh; simp only [Own.mine,hh.1]; exact hlo
        · exact hg
      | _ => simp only [hq] at hg; exact hg
    · refine h.wlt g ?_
      intro hq
      simp only [hq] at hg
      exact hg rfl
    · refine h.wid g i ?_
      cases hq : e.who g with
      | cell i' j' =>
        simp only [hq] at hg
        split at hg
        · rcases hg with hg | ⟨_,hg⟩ <;> cases hg
        · exact hg
      | _ => simp only [hq] at hg; exact hg
    · cases hq : e.who g with
      | cell i' j' =>
        rw [hq] at hg
        simp only [hq]
        rw [if_neg (fun hh => hg (by simp only [Own.mine,hh.1]; exact hlo))]
      | _ => simp only [hq]
    · rw [az] at hi
      by_cases hin : i = id
      · subst hin
        refine ⟨_,vp hi,.inr ⟨by simp only; rw [wo _ (by rw [hwho]; simp)]; exact hwho,ds,h1,by simpa using h2,fun j hj => ?_⟩⟩
        have key : CR σ ⟨e.b,e.n,fun g => match e.who g with | .cell i' j => if i' = i ∧ j = off then .tok tk.length else .cell i' j | o => o⟩ i j ((b.cs.set off (.sl l)).getD j .undef) (ds.getD j undef) := by
          by_cases hjo : j = off
          · subst hjo
            have : (b.cs.set j (.sl l)).getD j .undef = .sl l := by simp [List.getD_eq_getElem?_getD,hlt]
            rw [this]
            exact ⟨.pr hp,rfl,rfl⟩
          · have : (b.cs.set off (.sl l)).getD j .undef = b.cs.getD j .undef := by simp [List.getD_eq_getElem?_getD,List.getElem?_set,Ne.symm hjo]
            rw [this]
            exact CR.step (e := e) (.refl _) (fun _ _ => rfl) (by have := h.n; simp only; omega) (fun g hg => ⟨wc g i j hg (by omega),rfl⟩) (h3 j hj).1
        exact ⟨key,zad9 key⟩
      · obtain ⟨b2,q1,q2⟩ := h.ob i hi
        exact ⟨b2,by rw [yz hin]; exact q1,zaru.step (e := e) (.refl _) (fun _ _ => rfl) (by have := h.n; simp only; omega) (fun _ => rfl) (fun q => by simp only; rw [wo _ (by rw [q]; simp)]; exact q) (fun g j hg => ⟨wc g i j hg (by omega),rfl⟩) q2⟩
  · refine .sla _ _ _ hp (by simp) fun n t' hn => ?_
    simp only [List.length_append,List.length_cons,List.length_nil,Nat.zero_add,List.getElem?_concat_length,Option.some.injEq,Prod.mk.injEq] at hn
    obtain ⟨rfl,rfl⟩ := hn
    refine ⟨Nat.le_refl _,fun _ => ?_⟩
    rcases hlk with hlk | ⟨hne,g,s,cs,q1,q2,q3,q4⟩
    · exact .inl hlk
    · refine .inr ⟨hne,g,s,cs,q1,?_,q3,q4⟩
      simp only [q2,and_self,if_true]
end
end Go.Proofs.Ytdcfoaafkppojaa.Sh
