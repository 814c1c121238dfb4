/- The tree level: operations that leave all as it is are the shadow's. -/
import Derived.Test.YtdcfoaafkppojaaTv2
set_option linter.unusedVariables false
set_option linter.unusedSimpArgs false
namespace Go.Proofs.Ytdcfoaafkppojaa.Sh
open Go Go.RowKit
section
variable {P : Program} {B : Bs} {e : Env} {fr : TF} {tk : TK} {τ : TH} {fr' : Fr} {σ : ak}
theorem tr_nil {v : TV} {w : Value} (h : TR σ e [] v w) : TR σ e tk v w :=
  h.step ⟨.refl _,Nat.le_refl _,fun _ _ => rfl,fun i hi => by simp at hi,fun i n' t' hi => by simp at hi⟩
theorem cr_rd {id j : Nat} {v : TV} {w : Value} (h : CR σ e id j v w) : TR σ e tk v.rd w := by
  cases v with
  | slo t l => exact .pr h.1
  | _ => exact tr_nil h.1
theorem jo {α : Type} {l : List α} {i : Nat} {d x : α} (h : l[i]? = some x) : l.getD i d = x := by rw [List.getD_eq_getElem?_getD,h,Option.getD_some]
theorem ym {α : Type} {l : List α} {i : Nat} {x : α} (h : l[i]? = some x) : i < l.length := (List.getElem?_eq_some_iff.1 h).1
theorem zaki {α : Type} {l : List α} {i : Nat} (d : α) (h : i < l.length) : l[i]? = some (l.getD i d) := by rw [List.getD_eq_getElem?_getD,List.getElem?_eq_getElem h,Option.getD_some]
theorem db {α : Type} (l : List α) (o n j : Nat) (d : α) (hj : j < n) : ((l.drop o).take n).getD j d = l.getD (o + j) d := by
  simp only [List.getD_eq_getElem?_getD,List.getElem?_take,hj,if_true,List.getElem?_drop]
theorem nk {α β : Type} (f : α → β) (l : List α) (j : Nat) (a : α) (b : β) (hj : j < l.length) : (l.map f).getD j b = f (l.getD j a) := by
  simp only [List.getD_eq_getElem?_getD,List.getElem?_map,List.getElem?_eq_getElem hj,Option.map_some,Option.getD_some]
theorem za1n (hs : St B e fr tk τ fr' σ) {id off : Nat} {v : TV} (hid : id < e.n) (h : zapi τ id off = some v) : ∃ w,σ.load (e.b id) off = some w ∧ TR σ e tk v w := by
  obtain ⟨b,hb,hb2⟩ := Option.bind_eq_some_iff.1 h
  obtain ⟨u,hu,rfl⟩ := Option.map_eq_some_iff.1 hb2
  obtain ⟨b',hb',ho⟩ := hs.ob id (by rw [← hs.n]; exact hid)
  rw [hb] at hb'; injection hb' with hb'; subst hb'
  have hlt := ym hu
  obtain ⟨_,cs,h1,h2,h3⟩ := ho.live (fun h0 => by rw [h0] at hlt; cases hlt)
  have := (h3 off (by omega)).1
  rw [jo hu] at this
  exact ⟨cs.getD off undef,by unfold ak.load; rw [h1]; exact zaki _ (by omega),cr_rd this⟩
theorem ob_row (hs : St B e fr tk τ fr' σ) {id off n : Nat} {l : List TV} (hid : id < e.n) (hn0 : n ≠ 0) (h : zauq τ id off n = some l) : ∃ ws,σ.row (e.b id) off n = some ws ∧ l.length = ws.length ∧ ws.length = n ∧ ∀ j,j < l.length → TR σ e tk (l.getD j .undef) (ws.getD j undef) := by
  obtain ⟨b,hb,hb2⟩ := Option.bind_eq_some_iff.1 h
  obtain ⟨b',hb',ho⟩ := hs.ob id (by rw [← hs.n]; exact hid)
  rw [hb] at hb'; injection hb' with hb'; subst hb'
  split at hb2
  · rename_i hle
    obtain ⟨_,cs,h1,h2,h3⟩ := ho.live (fun h0 => by rw [h0] at hle; simp at hle; omega)
    injection hb2 with hb2; subst hb2
    refine ⟨(cs.drop off).take n,by unfold ak.row; rw [h1]; simp only; rw [if_pos (by omega)],by simp [h2],by simp; omega,fun j hj => ?_⟩
    have hjn : j < n := by simp at hj; omega
    have hjl : off + j < b.cs.length := by omega
    rw [nk TV.rd _ _ .undef _ (by simp; omega),db _ _ _ _ _ hjn,db _ _ _ _ _ hjn]
    exact cr_rd (h3 (off + j) (by omega)).1
  · cases hb2
theorem yd {g : Nat} {t : TypeId} {ws : List Value} {md : Md} (h : σ.at g = .cells t ws md) {o n : Nat} (hle : o + n ≤ ws.length) : σ.row g o n = some ((ws.drop o).take n) := by
  unfold ak.row; rw [h]; simp only; rw [if_pos hle]
theorem optO (hs : St B e fr tk τ fr' σ) (x : Option Operand) : (∀ v,x.map (tO fr) = some v → ∃ w,x.map (evO fr') = some w ∧ TR σ e tk v w) ∧ (x.map (tO fr) = none → x.map (evO fr') = none) := by
  cases x with
  | none => exact ⟨fun v h => by simp at h,fun _ => rfl⟩
  | some x => exact ⟨fun v h => by simp at h; subst h; exact ⟨_,rfl,hs.op x⟩,fun h => by simp at h⟩
theorem zapj : ∀ {l : List TV} {bs : List UInt8} {ws : List Value},l.length = ws.length → (∀ i,i < l.length → TR σ e tk (l.getD i .undef) (ws.getD i undef)) → uc l = some bs → bytesOf ws = some bs
  | [],bs,[],_,_,h => h
  | [],_,_ :: _,hl,_,_ => by cases hl
  | _ :: _,_,[],hl,_,_ => by cases hl
  | v :: r,bs,w :: ws,hl,hr,h => by
    cases v with
    | int k n =>
      cases k with
      | u8 =>
        obtain ⟨bs',hb,rfl⟩ := Option.map_eq_some_iff.1 h
        have := hr 0 (by simp)
        simp only [List.getD_cons_zero] at this
        obtain rfl := mc this
        have ih := zapj (l := r) (ws := ws) (by simpa using hl) (fun i hi => by have := hr (i + 1) (by simpa using hi); simpa using this) hb
        simp [bytesOf,ih]
      | _ => cases h
    | _ => cases h
theorem zah4 {v : TV} {w : Value} (h : PR σ v w) : v.cells = [v] ∧ w.cells = #[w] := by cases h <;> exact ⟨rfl,rfl⟩
theorem zakm {v : TV} {w : Value} (h : TR σ e tk v w) (hu : v ≠ .undef) : v.cells.length = w.cells.size ∧ ∀ j,j < v.cells.length → TR σ e tk (v.cells.getD j .undef) (w.cells.getD j undef) := by
  have one : ∀ {v : TV} {w : Value},TR σ e tk v w → v.cells = [v] → w.cells = #[w] → v.cells.length = w.cells.size ∧ ∀ j,j < v.cells.length → TR σ e tk (v.cells.getD j .undef) (w.cells.getD j undef) := fun h e1 e2 => by
    rw [e1,e2]
    refine ⟨rfl,fun j hj => ?_⟩
    obtain rfl : j = 0 := by simpa using hj
    simpa using h
  have h0 := h
  cases h with
  | undef w => exact absurd rfl hu
  | pr h => obtain ⟨e1,e2⟩ := zah4 h; exact one h0 e1 e2
  | slz => exact one h0 rfl rfl
  | ptr => exact one h0 rfl rfl
  | slm => exact one h0 rfl rfl
  | rptr => exact one h0 rfl rfl
  | sla tok l w h => obtain ⟨_,e2⟩ := zah4 h; exact one h0 rfl e2
  | slb => exact one h0 rfl rfl
  | func => exact one h0 rfl rfl
  | tup a c ha h => exact one h0 rfl rfl
  | agg a c ha h => exact ⟨ha,h⟩
theorem zazm {v : TV} {w : Value} (h : TR σ e tk v w) : TR σ e tk v.canS w := by
  cases v with
  | sla tok l => exact .pr (pi (v := .sla tok l) rfl h)
  | slb tok t => obtain ⟨g,rfl,_⟩ := za22 h; exact .pr (.slE _ _)
  | slz => exact .pr (pi (v := .slz) rfl h)
  | _ => exact h
theorem za2i {v : TV} {w : Value} (h : TR σ e tk v w) : TR σ e tk v.canA w := by
  cases v with
  | agg cs =>
    obtain ⟨c,rfl,h1,h2⟩ := zamd h
    refine .agg _ _ (by simpa using h1) fun i hi => ?_
    rw [nk TV.canS _ _ .undef _ (by simpa using hi)]
    exact zazm (h2 i (by simpa using hi))
  | _ => exact zazm h
theorem za2h {v : TV} {w : Value} (h : TR σ e tk v w) : TR σ e tk v.canT w := by
  cases v with
  | tup cs =>
    obtain ⟨c,rfl,h1,h2⟩ := tr_tup h
    refine .tup _ _ (by simpa using h1) fun i hi => ?_
    rw [nk TV.canA _ _ .undef _ (by simpa using hi)]
    exact za2i (h2 i (by simpa using hi))
  | _ => exact za2i h
theorem part_tr {v : TV} {w : Value} (h : TR σ e tk v w) : TR σ e tk v.part w := by
  cases v with
  | sla tok l => exact .pr (pi (v := .sla tok l) rfl h)
  | slb tok t => obtain ⟨g,rfl,_⟩ := za22 h; exact .pr (.slE _ _)
  | _ => exact h
def LR (σ : ak) (e : Env) (tk : TK) (a : List TV) (c : List Value) : Prop := a.length = c.length ∧ ∀ i,i < a.length → TR σ e tk (a.getD i .undef) (c.getD i Go.undef)
theorem tset_ok : ∀ (vs : List TV) (ws : List Value) (cs : List TV) (ds : List Value) (off : Nat),LR σ e tk cs ds → LR σ e tk vs ws → LR σ e tk (zaup cs off vs) (jh ds off ws)
  | [],ws,cs,ds,off,h1,h2 => by
    have : ws = [] := List.eq_nil_of_length_eq_zero h2.1.symm
    subst this; exact h1
  | v :: r,[],cs,ds,off,h1,h2 => by cases h2.1
  | v :: r,w :: ws,cs,ds,off,h1,h2 => by
    simp only [zaup,jh]
    refine tset_ok r ws _ _ _ ⟨by simpa using h1.1,fun i hi => ?_⟩ ⟨by simpa using h2.1,fun i hi => by have := h2.2 (i + 1) (by simpa using hi); simpa using this⟩
    have hi1 : i < cs.length := by simpa using hi
    have hi2 : i < ds.length := by rw [← h1.1]; exact hi1
    by_cases hio : i = off
    · subst hio
      have := h2.2 0 (by simp)
      simpa [List.getD_eq_getElem?_getD,hi1,hi2] using this
    · have := h1.2 i hi1
      simpa [List.getD_eq_getElem?_getD,List.getElem?_set,Ne.symm hio] using this
theorem zan5 {v : TV} {w : Value} (h : TR σ e tk v w) (hl : v.cells.length = w.cells.size) : LR σ e tk (v.cells.map TV.part) w.cells.toList := by
  refine ⟨by simpa using hl,fun i hi => ?_⟩
  have hi' : i < v.cells.length := by simpa using hi
  rw [nk TV.part _ _ .undef _ hi',cw]
  by_cases hu : v = .undef
  · subst hu
    obtain rfl : i = 0 := by simpa [TV.cells] using hi'
    exact .undef _
  · exact part_tr ((zakm h hu).2 i hi')
theorem za3b : ∀ (ps : List (Nat × Nat × TV)) (qs : List (Nat × Nat × Value)) (cs : List TV) (ds : List Value) (cs' : List TV),LR σ e tk cs ds → ps.length = qs.length →
    (∀ (i : Nat) (p : Nat × Nat × TV) (q : Nat × Nat × Value),ps[i]? = some p → qs[i]? = some q → p.1 = q.1 ∧ p.2.1 = q.2.1 ∧ TR σ e tk p.2.2 q.2.2) → zawu cs ps = some cs' → ∃ ds',zaac ds qs = some ds' ∧ LR σ e tk cs' ds'
  | [],[],cs,ds,cs',h,_,_,hf => by injection hf with hf; subst hf; exact ⟨ds,rfl,h⟩
  | [],_ :: _,_,_,_,_,hl,_,_ => by cases hl
  | _ :: _,[],_,_,_,_,hl,_,_ => by cases hl
  | (off,sz,v) :: r,(off',sz',w) :: qs,cs,ds,cs',h,hl,hr,hf => by
    obtain ⟨h1,h2,h3⟩ := hr 0 _ _ rfl rfl
    simp only at h1 h2 h3
    subst h1 h2
    simp only [zawu] at hf
    split at hf
    · rename_i hc
      have hcl := (zakm h3 (by rintro rfl; cases hc.1)).1
      obtain ⟨ds',e1,e2⟩ := za3b r qs _ _ cs' (tset_ok (v.cells.map TV.part) w.cells.toList cs ds off h (zan5 h3 hcl)) (by simpa using hl) (fun i p q hp hq => hr (i + 1) p q (by simpa using hp) (by simpa using hq)) hf
      refine ⟨ds',?_,e2⟩
      simp only [zaac]
      rw [if_pos ⟨by rw [← hcl]; exact hc.2.1,by rw [← h.1]; exact hc.2.2⟩]
      exact e1
    · cases hf
theorem tP_ok {i : I} {v : TV} (h : tP i fr τ = some v) (hs : St B e fr tk τ fr' σ) (K : Value → ak → Prop) (hK : ∀ w,TR σ e tk v w → K w σ) : evI P i K fr' σ := by
  cases i with
  | mov x => injection h with h; subst h; exact hK _ (hs.op x)
  | pick c a b =>
    simp only [tP] at h
    split at h
    · rename_i t ht
      injection h with h; subst h
      have := hs.op c
      rw [ht] at this
      simp only [evI,va this]
      refine hK _ ?_
      cases t
      · exact hs.op b
      · exact hs.op a
    · cases h
  | load1 x =>
    simp only [tP] at h
    have hx := hs.op x
    split at h
    · rename_i id off ht
      rw [ht] at hx
      obtain ⟨hid,e1⟩ := u9 hx
      obtain ⟨w,h1,h2⟩ := za1n hs hid h
      simp only [evI,e1,zab4,h1,ma]
      exact hK _ h2
    · rename_i cs off ht
      rw [ht] at hx
      obtain ⟨g,o,t,ws,md,h1,h2,h3,h4,e1⟩ := zab8 hx
      have hlt := ym h
      have hl : σ.load g (o + off) = some (ws.getD (o + off) undef) := by unfold ak.load; rw [h1]; exact zaki _ (by omega)
      simp only [evI,e1,zab4,hl,ma]
      have := h4 off hlt
      rw [jo h] at this
      exact hK _ (.pr this)
    · cases h
  | loadN n x =>
    simp only [tP] at h
    have hx := hs.op x
    split at h
    · rename_i id off ht
      rw [ht] at hx
      obtain ⟨hid,e1⟩ := u9 hx
      split at h
      · cases h
      rename_i hn0
      obtain ⟨l,hl,rfl⟩ := Option.map_eq_some_iff.1 h
      obtain ⟨ws,h1,h2,h3,h4⟩ := ob_row hs hid hn0 hl
      simp only [evI,e1,zab4,h1,ma]
      exact hK _ (.agg _ _ (by simpa using h2) fun j hj => by rw [bo]; exact h4 j hj)
    · rename_i cs off ht
      rw [ht] at hx
      obtain ⟨g,o,t,ws,md,h1,h2,h3,h4,e1⟩ := zab8 hx
      split at h
      · rename_i hle
        injection h with h; subst h
        have hr := yd h1 (o := o + off) (n := n) (by omega)
        simp only [evI,e1,zab4,hr,ma]
        refine hK _ (.agg _ _ (by simp; omega) fun j hj => ?_)
        have hjn : j < n := by simp at hj; omega
        rw [bo,db _ _ _ _ _ hjn,db _ _ _ _ _ hjn]
        have := h4 (off + j) (by omega)
        rw [← Nat.add_assoc] at this
        exact .pr this
      · cases h
    · cases h
  | nilchk x =>
    simp only [tP] at h
    have hx := hs.op x
    split at h
    · rename_i id off ht
      rw [ht] at hx
      injection h with h; subst h
      have e1 := (u9 hx).2
      simp only [evI]
      rw [e1] at hx ⊢
      exact hK _ hx
    · rename_i cs off ht
      rw [ht] at hx
      injection h with h; subst h
      obtain ⟨g,o,t,ws,md,h1,h2,h3,h4,e1⟩ := zab8 hx
      simp only [evI]
      rw [e1] at hx ⊢
      exact hK _ hx
    · rename_i f a b ht
      rw [ht] at hx
      injection h with h; subst h
      obtain ⟨c,d,e1,_⟩ := za1c hx
      simp only [evI]
      rw [e1] at hx ⊢
      exact hK _ hx
    · cases h
  | bin op x y =>
    simp only [tP] at h
    obtain ⟨r,h1,h2⟩ := tbin_ok (hs.op x) (hs.op y) h
    simp only [evI,h1,ma]
    exact hK _ (.pr h2)
  | eqB neg x y =>
    simp only [tP] at h
    split at h
    · rename_i p q h1 h2
      injection h with h; subst h
      have hx := hs.op x
      have hy := hs.op y
      rw [h1] at hx
      rw [h2] at hy
      simp only [evI,va hx,va hy,zahs]
      exact hK _ (.pr (.bool _))
    · cases h
  | isNil k neg x =>
    simp only [tP] at h
    obtain ⟨b,hb,rfl⟩ := Option.map_eq_some_iff.1 h
    simp only [evI,tnil_ok (hs.op x) hb,ma]
    exact hK _ (.pr (.bool _))
  | un op x =>
    simp only [tP] at h
    obtain ⟨r,h1,h2⟩ := tun_ok (hs.op x) h
    simp only [evI,h1,ma]
    exact hK _ (.pr h2)
  | conv k x =>
    simp only [tP] at h
    split at h
    · rename_i k' n ht
      injection h with h; subst h
      have hx := hs.op x
      rw [ht] at hx
      simp only [evI,mc hx,zk]
      exact hK _ (.pr (.int _ _))
    · cases h
  | convS x =>
    simp only [tP] at h
    split at h
    · rename_i s ht
      injection h with h; subst h
      have hx := hs.op x
      rw [ht] at hx
      simp only [evI,zab7 hx,zaqs]
      exact hK _ (.pr (.str _))
    · cases h
  | fieldAddr off x =>
    simp only [tP] at h
    have hx := hs.op x
    split at h
    · rename_i id o ht
      rw [ht] at hx
      injection h with h; subst h
      obtain ⟨hid,e1⟩ := u9 hx
      simp only [evI,e1,zab4]
      exact hK _ (.ptr id (o + off) hid)
    · rename_i cs o ht
      rw [ht] at hx
      injection h with h; subst h
      obtain ⟨g,o',t,ws,md,h1,h2,h3,h4,e1⟩ := zab8 hx
      simp only [evI,e1,zab4]
      refine hK _ ?_
      have := TR.rptr (σ := σ) (e := e) (tk := tk) cs (o + off) g o' t ws md h1 h2 h3 h4
      rwa [← Nat.add_assoc] at this
    · cases h
  | field1 off x =>
    simp only [tP] at h
    split at h
    · rename_i cs ht
      have hx := hs.op x
      rw [ht] at hx
      obtain ⟨c,e1,h1,h2⟩ := zamd hx
      have hlt := ym h
      simp only [evI,e1,zav9]
      refine ⟨by omega,hK _ ?_⟩
      have := h2 off hlt
      rwa [jo h] at this
    · cases h
  | fieldN off n x =>
    simp only [tP] at h
    split at h
    · rename_i cs ht
      split at h
      · rename_i hle
        injection h with h; subst h
        have hx := hs.op x
        rw [ht] at hx
        obtain ⟨c,e1,h1,h2⟩ := zamd hx
        simp only [evI,e1,zav9]
        refine ⟨by omega,hK _ (.agg _ _ (by simp; omega) fun j hj => ?_)⟩
        have hjn : j < n := by simp at hj; omega
        rw [db _ _ _ _ _ hjn,Array.getD_eq_getD_getElem?,Array.getElem?_extract,if_pos (by omega),← Array.getD_eq_getD_getElem?]
        exact h2 (off + j) (by omega)
      · cases h
    · cases h
  | indexPtr len sz x y =>
    simp only [tP] at h
    have hx := hs.op x
    have hy := hs.op y
    split at h
    · rename_i id o k n h1 h2
      rw [h1] at hx
      rw [h2] at hy
      split at h
      · rename_i hb
        injection h with h; subst h
        obtain ⟨hid,e1⟩ := u9 hx
        simp only [evI,e1,mc hy,zab4,zk]
        exact ⟨hb,hK _ (.ptr id _ hid)⟩
      · cases h
    · rename_i cs o k n h1 h2
      rw [h1] at hx
      rw [h2] at hy
      split at h
      · rename_i hb
        injection h with h; subst h
        obtain ⟨g,o',t,ws,md,h1,h2,h3,h4,e1⟩ := zab8 hx
        simp only [evI,e1,mc hy,zab4,zk]
        refine ⟨hb,hK _ ?_⟩
        have := TR.rptr (σ := σ) (e := e) (tk := tk) cs (o + n.toNat * sz) g o' t ws md h1 h2 h3 h4
        rwa [← Nat.add_assoc] at this
      · cases h
    · cases h
  | indexSl sz x y =>
    simp only [tP] at h
    have hx := hs.op x
    have hy := hs.op y
    split at h
    · rename_i k n h2
      rw [h2] at hy
      split at h
      · rename_i id o len s h1
        rw [h1] at hx
        split at h
        · rename_i hb
          obtain ⟨b1,b2,rfl⟩ := hb
          injection h with h; subst h
          obtain ⟨hid,e1⟩ := zapa hx
          simp only [evI,e1,mc hy,kSl,zk]
          exact ⟨⟨b1,b2⟩,hK _ (.ptr id _ hid)⟩
        · cases h
      · obtain ⟨l,hl,h⟩ := Option.bind_eq_some_iff.1 h
        split at h
        · rename_i hb
          obtain ⟨b1,b2,b3⟩ := hb
          injection h with h; subst h
          have hne : l ≠ [] := by rintro rfl; simp at b2; omega
          obtain ⟨g,o,s,t,cs,md,q0,q1,q2,q3,q4,q5,e1⟩ := rn hne (pi hl hx)
          have hn : n.toNat < l.length := by omega
          have hs' : s = sz := by rw [← b3]; exact (q4 n.toNat hn).symm
          subst hs'
          simp only [evI,e1,mc hy,kSl,zk]
          refine ⟨⟨b1,b2⟩,hK _ ?_⟩
          have hle : (n.toNat + 1) * s ≤ l.length * s := Nat.mul_le_mul_right _ hn
          rw [Nat.add_mul,Nat.one_mul] at hle
          have := TR.rptr (σ := σ) (e := e) (tk := tk) (l.getD n.toNat .undef).cells 0 g (o + n.toNat * s) t cs md q1 q2 (by rw [q4 _ hn]; omega) (fun j hj => q5 _ hn j (by rw [← q4 _ hn]; exact hj))
          simpa using this
        · cases h
    · cases h
  | indexStr x y =>
    simp only [tP] at h
    split at h
    · rename_i s k n h1 h2
      have hx := hs.op x
      have hy := hs.op y
      rw [h1] at hx
      rw [h2] at hy
      split at h
      · rename_i hb
        injection h with h; subst h
        simp only [evI,zab7 hx,mc hy,zaqs,zk]
        exact ⟨hb,hK _ (.pr (.int _ _))⟩
      · cases h
    · cases h
  | sliceStr x lo hi =>
    simp only [tP] at h
    split at h
    · rename_i s h1
      have hx := hs.op x
      rw [h1] at hx
      obtain ⟨lh,hb,rfl⟩ := Option.map_eq_some_iff.1 h
      obtain ⟨l1,l2⟩ := optO hs lo
      obtain ⟨u1,u2⟩ := optO hs hi
      simp only [evI,zab7 hx,zaqs,zalm l1 l2 u1 u2 hb,ma]
      exact hK _ (.pr (.str _))
    · cases h
  | sliceSl sz x lo hi =>
    obtain ⟨l1,l2⟩ := optO hs lo
    obtain ⟨u1,u2⟩ := optO hs hi
    have hx := hs.op x
    have go : ∀ l : List TV,(tO fr x).list = some l → (if l.all (fun e => e.cells.length == sz) && !l.isEmpty then (ig l.length (lo.map (tO fr)) (hi.map (tO fr))).map fun lh => TV.sl ((l.take lh.2).drop lh.1) else none) = some v → evI P (.sliceSl sz x lo hi) K fr' σ := fun l hl h => by
      split at h
      · rename_i hc
        simp only [Bool.and_eq_true,List.all_eq_true,beq_iff_eq,Bool.not_eq_true',List.isEmpty_eq_false_iff] at hc
        obtain ⟨lh,hb,rfl⟩ := Option.map_eq_some_iff.1 h
        obtain ⟨b1,b2⟩ := tbounds_le hb
        obtain ⟨g,o,s,t,cs,md,q0,q1,q2,q3,q4,q5,e1⟩ := rn hc.2 (pi hl hx)
        have hs' : s = sz := by
          cases l with
          | nil => exact absurd rfl hc.2
          | cons a r => rw [← q4 0 (by simp)]; exact hc.1 _ (by simp)
        subst hs'
        simp only [evI,e1,kSl,zalm l1 l2 u1 u2 hb,ma]
        refine ⟨trivial,hK _ (.pr ?_)⟩
        by_cases h0 : lh.1 = lh.2
        · have e2 : (l.take lh.2).drop lh.1 = [] := by rw [h0]; simp
          rw [e2,h0,Nat.sub_self]
          exact .slE _ _
        · have hl' : ((l.take lh.2).drop lh.1).length = lh.2 - lh.1 := by simp; omega
          have gd : ∀ i,i < lh.2 - lh.1 → ((l.take lh.2).drop lh.1).getD i .undef = l.getD (lh.1 + i) .undef := fun i hi => by
            simp only [List.getD_eq_getElem?_getD,List.getElem?_drop,List.getElem?_take]
            rw [if_pos (by omega)]
          have hle : lh.2 * s ≤ l.length * s := Nat.mul_le_mul_right _ b2
          have e3 : lh.1 * s + (lh.2 - lh.1) * s = lh.2 * s := by rw [← Nat.add_mul]; congr 1; omega
          have := PR.sl (σ := σ) ((l.take lh.2).drop lh.1) g (o + lh.1 * s) s t cs md (by intro e; rw [e] at hl'; simp at hl'; omega) q0 q1 q2 (by rw [hl']; omega) (fun i hi => by
            rw [hl'] at hi; rw [gd i hi]; exact q4 _ (by omega)) (fun i hi j hj => by
            rw [hl'] at hi; rw [gd i hi]
            have := q5 (lh.1 + i) (by omega) j hj
            rw [Nat.add_mul] at this
            have e4 : o + (lh.1 * s + i * s) + j = o + lh.1 * s + i * s + j := by omega
            rw [e4] at this
            exact this)
          rw [hl'] at this
          exact this
      · cases h
    simp only [tP] at h
    split at h
    · rename_i id o len s h1
      rw [h1] at hx
      split at h
      · rename_i hs'
        subst hs'
        obtain ⟨lh,hb,rfl⟩ := Option.map_eq_some_iff.1 h
        obtain ⟨hid,e1⟩ := zapa hx
        simp only [evI,e1,kSl,zalm l1 l2 u1 u2 hb,ma]
        exact ⟨trivial,hK _ (.slm id _ _ _ hid)⟩
      · cases h
    · rename_i l h1
      exact go l (by rw [h1]; rfl) h
    · rename_i k l h1
      exact go l (by rw [h1]; rfl) h
    · cases h
  | lenS x =>
    simp only [tP] at h
    split at h
    · rename_i s h1
      have hx := hs.op x
      rw [h1] at hx
      injection h with h; subst h
      simp only [evI,zab7 hx,zaqs]
      exact hK _ (.pr (.int _ _))
    · cases h
  | lenL x =>
    simp only [tP] at h
    have hx := hs.op x
    split at h
    · rename_i id o n s h1
      rw [h1] at hx
      injection h with h; subst h
      simp only [evI,(zapa hx).2,kSlN]
      exact hK _ (.pr (.int _ _))
    · obtain ⟨l,hl,rfl⟩ := Option.map_eq_some_iff.1 h
      obtain ⟨a,s,e1⟩ := zack (pi hl hx)
      simp only [evI,e1,kSlN]
      exact hK _ (.pr (.int _ _))
  | min x y =>
    simp only [tP] at h
    split at h
    · rename_i k a k' b h1 h2
      have hx := hs.op x
      have hy := hs.op y
      rw [h1] at hx
      rw [h2] at hy
      injection h with h; subst h
      simp only [evI,mc hx,mc hy,zk]
      exact hK _ (.pr (.int _ _))
    · cases h
  | max x y =>
    simp only [tP] at h
    split at h
    · rename_i k a k' b h1 h2
      have hx := hs.op x
      have hy := hs.op y
      rw [h1] at hx
      rw [h2] at hy
      injection h with h; subst h
      simp only [evI,mc hx,mc hy,zk]
      exact hK _ (.pr (.int _ _))
    · cases h
  | mkFunc fn a b =>
    cases fn with
    | func f =>
      injection h with h; subst h
      simp only [evI]
      have key : ∀ l : List Operand,∀ i,i < (l.map fun x => (tO fr x).canS).length → TR σ e tk ((l.map fun x => (tO fr x).canS).getD i .undef) ((l.map (evO fr')).toArray.getD i undef) := fun l i hi => by
        have hi' : i < l.length := by simpa using hi
        rw [bo]
        simp only [List.getD_eq_getElem?_getD,List.getElem?_map,List.getElem?_eq_getElem hi',Option.map_some,Option.getD_some]
        exact zazm (hs.op _)
      exact hK _ (.func _ _ _ _ _ (by simp) (by simp) (key a) (key b))
    | _ => cases h
  | extract x i =>
    simp only [tP] at h
    split at h
    · rename_i cs ht
      have hx := hs.op x
      rw [ht] at hx
      obtain ⟨c,e1,h1,h2⟩ := tr_tup hx
      have hlt := ym h
      simp only [evI,e1,kTup]
      refine ⟨by omega,hK _ ?_⟩
      have := h2 i hlt
      rwa [jo h] at this
    · cases h
  | build zero parts =>
    simp only [tP] at h
    obtain ⟨cs,hc,rfl⟩ := Option.map_eq_some_iff.1 h
    obtain ⟨ds,h1,h2,h3⟩ := za3b (σ := σ) (e := e) (tk := tk) _ (parts.map fun p => (p.1,p.2.1,evO fr' p.2.2)) (zero.map ofS) zero cs ⟨by simp,fun i hi => by
      rw [nk ofS _ _ undef _ (by simpa using hi)]; exact zawm _⟩ (by simp) (fun i p q hp hq => by
      simp only [List.getElem?_map,Option.map_eq_some_iff] at hp hq
      obtain ⟨a,ha,rfl⟩ := hp
      obtain ⟨b,hb,rfl⟩ := hq
      rw [ha] at hb; injection hb with hb; subst hb
      exact ⟨rfl,rfl,hs.op _⟩) hc
    simp only [evI,h1,ma]
    exact hK _ (.agg _ _ (by simpa using h2) fun i hi => by rw [bo]; exact h3 i hi)
  | toStr x =>
    simp only [tP] at h
    have hx := hs.op x
    split at h
    · rename_i id off n s h1
      rw [h1] at hx
      split at h
      · rename_i hs'
        subst hs'
        obtain ⟨bs,hb,rfl⟩ := Option.map_eq_some_iff.1 h
        obtain ⟨l,hl,hb⟩ := Option.bind_eq_some_iff.1 hb
        obtain ⟨hid,e1⟩ := zapa hx
        simp only [evI,e1,gj]
        refine ⟨fun hn => ?_,fun hn0 => ?_⟩
        · subst hn
          have : l = [] := by
            obtain ⟨b,_,hb2⟩ := Option.bind_eq_some_iff.1 hl
            split at hb2
            · injection hb2 with hb2; subst hb2; simp
            · cases hb2
          subst this
          injection hb with hb; subst hb
          exact hK _ (.pr (.str _))
        · obtain ⟨ws,g1,g2,g3,g4⟩ := ob_row hs hid hn0 hl
          simp only [g1,Option.bind_some,zapj g2 g4 hb,ma]
          exact hK _ (.pr (.str _))
      · cases h
    · obtain ⟨bs,hb,rfl⟩ := Option.map_eq_some_iff.1 h
      obtain ⟨l,hl,hb⟩ := Option.bind_eq_some_iff.1 hb
      have hp := pi hl hx
      by_cases hne : l = []
      · subst hne
        injection hb with hb; subst hb
        have : K (.string ⟨#[]⟩) σ := hK _ (.pr (.str _))
        simp only [evI]
        generalize evO fr' x = q at hp
        cases hp with
        | slN => exact this
        | slE a s => exact ⟨fun _ => this,fun h => (h rfl).elim⟩
        | sl _ _ _ _ _ _ _ h => exact absurd rfl h
      · obtain ⟨g,o,s,t,cs,md,q0,q1,q2,q3,q4,q5,e1⟩ := rn hne hp
        have hs1 : s = 1 := by
          cases l with
          | nil => exact absurd rfl hne
          | cons a r =>
            rw [← q4 0 (by simp)]
            cases a with
            | int k n => rfl
            | _ => cases hb
        subst hs1
        rw [Nat.mul_one] at q3
        have hr := yd q1 (o := o) (n := l.length) q3
        have hb' : bytesOf ((cs.drop o).take l.length) = some bs := by
          refine zapj (σ := σ) (e := e) (tk := tk) (by simp; omega) (fun i hi => ?_) hb
          rw [db _ _ _ _ _ hi]
          have := q5 i hi 0 (by omega)
          rw [Nat.mul_one,Nat.add_zero] at this
          have e2 : (l.getD i .undef).cells.getD 0 .undef = l.getD i .undef := by
            have : l.getD i .undef ∈ l := by rw [jo (List.getElem?_eq_getElem hi)]; exact List.getElem_mem hi
            have key : ∀ (l : List TV) (bs : List UInt8),uc l = some bs → ∀ x ∈ l,∃ n,x = .int .u8 n := by
              intro l
              induction l with
              | nil => intro bs _ x hx; simp at hx
              | cons a r ih =>
                intro bs hb x hx
                cases a with
                | int k n =>
                  cases k with
                  | u8 =>
                    obtain ⟨bs',hb',_⟩ := Option.map_eq_some_iff.1 hb
                    rcases List.mem_cons.1 hx with rfl | hx
                    · exact ⟨n,rfl⟩
                    · exact ih bs' hb' x hx
                  | _ => cases hb
                | _ => cases hb
            obtain ⟨n,hn⟩ := key l bs hb _ this
            rw [hn]; rfl
          rw [e2] at this
          exact .pr this
        simp only [evI,e1,gj]
        refine ⟨fun h0 => absurd (List.eq_nil_of_length_eq_zero h0) hne,fun _ => ?_⟩
        simp only [hr,Option.bind_some,hb',ma]
        exact hK _ (.pr (.str _))
  | indexAgg len x y =>
    simp only [tP] at h
    split at h
    · rename_i cs k n h1 h2
      have hx := hs.op x
      have hy := hs.op y
      rw [h1] at hx
      rw [h2] at hy
      split at h
      · rename_i hb
        obtain ⟨c,e1,g1,g2⟩ := zamd hx
        have hlt := ym h
        simp only [evI,e1,mc hy,zav9,zk]
        refine ⟨⟨hb.1,hb.2.1,by omega⟩,hK _ ?_⟩
        have := g2 _ hlt
        rwa [jo h] at this
      · cases h
    · cases h
  | indexAggN len sz x y =>
    simp only [tP] at h
    split at h
    · rename_i cs k n h1 h2
      have hx := hs.op x
      have hy := hs.op y
      rw [h1] at hx
      rw [h2] at hy
      split at h
      · rename_i hb
        obtain ⟨b1,b2,b3⟩ := hb
        injection h with h; subst h
        obtain ⟨c,e1,g1,g2⟩ := zamd hx
        have hle : (n.toNat + 1) * sz ≤ len * sz := Nat.mul_le_mul_right _ (by omega)
        rw [Nat.add_mul,Nat.one_mul] at hle
        simp only [evI,e1,mc hy,zav9,zk]
        refine ⟨⟨b1,b2,by omega⟩,hK _ (.agg _ _ (by simp; omega) fun j hj => ?_)⟩
        have hjn : j < sz := by simp at hj; omega
        rw [db _ _ _ _ _ hjn,Array.getD_eq_getD_getElem?,Array.getElem?_extract,if_pos (by omega),← Array.getD_eq_getD_getElem?]
        exact g2 _ (by omega)
      · cases h
    · cases h
  | eqF neg ks x y =>
    simp only [tP] at h
    split at h
    · rename_i p q h1 h2
      have hx := hs.op x
      have hy := hs.op y
      rw [h1] at hx
      rw [h2] at hy
      obtain ⟨b,hb,rfl⟩ := Option.map_eq_some_iff.1 h
      obtain ⟨c,e1,g1,g2⟩ := zamd hx
      obtain ⟨d,e2,g3,g4⟩ := zamd hy
      have := teqs_ok (a' := c.toList) (c' := d.toList) (by simpa using g1) (by simpa using g3) (fun i hi => by rw [cw]; exact g2 i hi) (fun i hi => by rw [cw]; exact g4 i hi) hb
      simp only [evI,e1,e2,zav9,this,ma]
      exact hK _ (.pr (.bool _))
    · cases h
  | _ => cases h
end
end Go.Proofs.Ytdcfoaafkppojaa.Sh
