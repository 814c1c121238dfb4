import Derived.Test.YtgkkienmocpnbaaM5
set_option linter.unusedVariables false
set_option linter.unusedSimpArgs false
namespace Go.Proofs.Ytgkkienmocpnbaa.Sh
open Go Go.RowKit
section
variable {P:Program} {B:Bs} {e:Env} {fr:TF} {tk:TK} {τ:TH} {fr':Fr} {σ:ah}
theorem zbjm {v:TV} {w:Value} (h:TR σ e [] v w):TR σ e tk v w :=
 h.step ⟨.refl _,Nat.le_refl _,fun _ _ => rfl,fun i hi => by simp at hi,fun i n' t' hi => by simp at hi⟩
theorem zbhf {id j:Nat} {v:TV} {w:Value} (h:CR σ e id j v w):TR σ e tk v.rd w:=by
 cases v with
 | slo t l => exact .pr h.1
 | _ => exact zbjm h.1
theorem gj {α:Type} {l:List α} {i:Nat} {d x:α} (h:l[i]? = some x):l.getD i d = x:=by rw [List.getD_eq_getElem?_getD,h,Option.getD_some]
theorem rq {α:Type} {l:List α} {i:Nat} {x:α} (h:l[i]? = some x):i < l.length:=(List.getElem?_eq_some_iff.1 h).1
theorem zblv {α:Type} {l:List α} {i:Nat} (d:α) (h:i < l.length):l[i]? = some (l.getD i d):=by rw [List.getD_eq_getElem?_getD,List.getElem?_eq_getElem h,Option.getD_some]
theorem dc {α:Type} (l:List α) (o n j:Nat) (d:α) (hj:j < n):((l.drop o).take n).getD j d = l.getD (o + j) d:=by
 simp only [List.getD_eq_getElem?_getD,List.getElem?_take,hj,if_true,List.getElem?_drop]
theorem ly {α β:Type} (f:α → β) (l:List α) (j:Nat) (a:α) (b:β) (hj:j < l.length):(l.map f).getD j b = f (l.getD j a):=by
 simp only [List.getD_eq_getElem?_getD,List.getElem?_map,List.getElem?_eq_getElem hj,Option.map_some,Option.getD_some]
theorem za79 (hs:St B e fr tk τ fr' σ) {id off:Nat} {v:TV} (hid:id < e.n) (h:zbbh τ id off = some v):∃ w,σ.load (e.b id) off = some w ∧ TR σ e tk v w:=by
 obtain ⟨b,hb,hb2⟩:=Option.bind_eq_some_iff.1 h
 obtain ⟨u,hu,rfl⟩:=Option.map_eq_some_iff.1 hb2
 obtain ⟨b',hb',ho⟩:=hs.ob id (by rw [← hs.n]; exact hid)
 rw [hb] at hb'; injection hb' with hb'; subst hb'
 have hlt:=rq hu
 obtain ⟨_,cs,h1,h2,h3⟩:=ho.live (fun h0 => by rw [h0] at hlt; cases hlt)
 have:=(h3 off (by omega)).1
 rw [gj hu] at this
 exact ⟨cs.getD off undef,by unfold ah.load; rw [h1]; exact zblv _ (by omega),zbhf this⟩
theorem za78 (hs:St B e fr tk τ fr' σ) {id off n:Nat} {l:List TV} (hid:id < e.n) (hn0:n ≠ 0) (h:gq τ id off n = some l):∃ ws,σ.row (e.b id) off n = some ws ∧ l.length = ws.length ∧ ws.length = n ∧ ∀ j,j < l.length → TR σ e tk (l.getD j .undef) (ws.getD j undef):=by
 obtain ⟨b,hb,hb2⟩:=Option.bind_eq_some_iff.1 h
 obtain ⟨b',hb',ho⟩:=hs.ob id (by rw [← hs.n]; exact hid)
 rw [hb] at hb'; injection hb' with hb'; subst hb'
 split at hb2
 · rename_i hle
   obtain ⟨_,cs,h1,h2,h3⟩:=ho.live (fun h0 => by rw [h0] at hle; simp at hle; omega)
   injection hb2 with hb2; subst hb2
   refine ⟨(cs.drop off).take n,by unfold ah.row; rw [h1]; simp only; rw [if_pos (by omega)],by simp [h2],by simp; omega,fun j hj => ?_⟩
   have hjn:j < n:=by simp at hj; omega
   have hjl:off + j < b.cs.length:=by omega
   rw [ly TV.rd _ _ .undef _ (by simp; omega),dc _ _ _ _ _ hjn,dc _ _ _ _ _ hjn]
   exact zbhf (h3 (off + j) (by omega)).1
 · cases hb2
theorem zbi3 {g:Nat} {t:TypeId} {ws:List Value} {md:Md} (h:σ.at g = .cells t ws md) {o n:Nat} (hle:o + n ≤ ws.length):σ.row g o n = some ((ws.drop o).take n):=by
 unfold ah.row; rw [h]; simp only; rw [if_pos hle]
theorem zbm0 (hs:St B e fr tk τ fr' σ) (x:Option Operand):(∀ v,x.map (tO fr) = some v → ∃ w,x.map (evO fr') = some w ∧ TR σ e tk v w) ∧ (x.map (tO fr) = none → x.map (evO fr') = none):=by
 cases x with
 | none => exact ⟨fun v h => by simp at h,fun _ => rfl⟩
 | some x => exact ⟨fun v h => by simp at h; subst h; exact ⟨_,rfl,hs.op x⟩,fun h => by simp at h⟩
theorem zbnv:∀ {l:List TV} {bs:List UInt8} {ws:List Value},l.length = ws.length → (∀ i,i < l.length → TR σ e tk (l.getD i .undef) (ws.getD i undef)) → mo l = some bs → ab ws = some bs
 | [],bs,[],_,_,h => h
 | [],_,_ :: _,hl,_,_ => by cases hl
 | _ :: _,_,[],hl,_,_ => by cases hl
 | v :: r,bs,w :: ws,hl,hr,h => by
  cases v with
  | int k n =>
   cases k with
   | u8 =>
    obtain ⟨bs',hb,rfl⟩:=Option.map_eq_some_iff.1 h
    have:=hr 0 (by simp)
    simp only [List.getD_cons_zero] at this
    obtain rfl:=jv this
    have ih:=zbnv (l:=r) (ws:=ws) (by simpa using hl) (fun i hi => by have:=hr (i + 1) (by simpa using hi); simpa using this) hb
    simp [ab,ih]
   | _ => cases h
  | _ => cases h
theorem zboo {v:TV} {w:Value} (h:PR σ v w):v.cells = [v] ∧ w.cells = #[w]:=by cases h <;> exact ⟨rfl,rfl⟩
theorem zbiz {v:TV} {w:Value} (h:TR σ e tk v w) (hu:v ≠ .undef):v.cells.length = w.cells.size ∧ ∀ j,j < v.cells.length → TR σ e tk (v.cells.getD j .undef) (w.cells.getD j undef):=by
 have one:∀ {v:TV} {w:Value},TR σ e tk v w → v.cells = [v] → w.cells = #[w] → v.cells.length = w.cells.size ∧ ∀ j,j < v.cells.length → TR σ e tk (v.cells.getD j .undef) (w.cells.getD j undef):=fun h e1 e2 => by
  rw [e1,e2]
  refine ⟨rfl,fun j hj => ?_⟩
  obtain rfl:j = 0:=by simpa using hj
  simpa using h
 have h0:=h
 cases h with
 | undef w => exact absurd rfl hu
 | pr h => obtain ⟨e1,e2⟩:=zboo h; exact one h0 e1 e2
 | slz => exact one h0 rfl rfl
 | ptr => exact one h0 rfl rfl
 | slm => exact one h0 rfl rfl
 | rptr => exact one h0 rfl rfl
 | sla tok l w h => obtain ⟨_,e2⟩:=zboo h; exact one h0 rfl e2
 | slb => exact one h0 rfl rfl
 | func => exact one h0 rfl rfl
 | tup a c ha h => exact one h0 rfl rfl
 | agg a c ha h => exact ⟨ha,h⟩
theorem zbht {v:TV} {w:Value} (h:TR σ e tk v w):TR σ e tk v.canS w:=by
 cases v with
 | sla tok l => exact .pr (sc (v:=.sla tok l) rfl h)
 | slb tok t => obtain ⟨g,rfl,_⟩:=zbmw h; exact .pr (.slE _ _)
 | slz => exact .pr (sc (v:=.slz) rfl h)
 | _ => exact h
theorem zbpo {v:TV} {w:Value} (h:TR σ e tk v w):TR σ e tk v.canA w:=by
 cases v with
 | agg cs =>
  obtain ⟨c,rfl,h1,h2⟩:=zbcy h
  refine .agg _ _ (by simpa using h1) fun i hi => ?_
  rw [ly TV.canS _ _ .undef _ (by simpa using hi)]
  exact zbht (h2 i (by simpa using hi))
 | _ => exact zbht h
theorem zbpp {v:TV} {w:Value} (h:TR σ e tk v w):TR σ e tk v.canT w:=by
 cases v with
 | tup cs =>
  obtain ⟨c,rfl,h1,h2⟩:=zaa0 h
  refine .tup _ _ (by simpa using h1) fun i hi => ?_
  rw [ly TV.canA _ _ .undef _ (by simpa using hi)]
  exact zbpo (h2 i (by simpa using hi))
 | _ => exact zbpo h
theorem zbgx {v:TV} {w:Value} (h:TR σ e tk v w):TR σ e tk v.part w:=by
 cases v with
 | sla tok l => exact .pr (sc (v:=.sla tok l) rfl h)
 | slb tok t => obtain ⟨g,rfl,_⟩:=zbmw h; exact .pr (.slE _ _)
 | _ => exact h
def LR (σ:ah) (e:Env) (tk:TK) (a:List TV) (c:List Value):Prop:=a.length = c.length ∧ ∀ i,i < a.length → TR σ e tk (a.getD i .undef) (c.getD i Go.undef)
theorem zaaw:∀ (vs:List TV) (ws:List Value) (cs:List TV) (ds:List Value) (off:Nat),LR σ e tk cs ds → LR σ e tk vs ws → LR σ e tk (de cs off vs) (iw ds off ws)
 | [],ws,cs,ds,off,h1,h2 => by
  have:ws = []:=List.eq_nil_of_length_eq_zero h2.1.symm
  subst this; exact h1
 | v :: r,[],cs,ds,off,h1,h2 => by cases h2.1
 | v :: r,w :: ws,cs,ds,off,h1,h2 => by
  simp only [de,iw]
  refine zaaw r ws _ _ _ ⟨by simpa using h1.1,fun i hi => ?_⟩ ⟨by simpa using h2.1,fun i hi => by have:=h2.2 (i + 1) (by simpa using hi); simpa using this⟩
  have hi1:i < cs.length:=by simpa using hi
  have hi2:i < ds.length:=by rw [← h1.1]; exact hi1
  by_cases hio:i = off
  · subst hio
    have:=h2.2 0 (by simp)
    simpa [List.getD_eq_getElem?_getD,hi1,hi2] using this
  · have:=h1.2 i hi1
    simpa [List.getD_eq_getElem?_getD,List.getElem?_set,Ne.symm hio] using this
theorem zb92 {v:TV} {w:Value} (h:TR σ e tk v w) (hl:v.cells.length = w.cells.size):LR σ e tk (v.cells.map TV.part) w.cells.toList:=by
 refine ⟨by simpa using hl,fun i hi => ?_⟩
 have hi':i < v.cells.length:=by simpa using hi
 rw [ly TV.part _ _ .undef _ hi',ay]
 by_cases hu:v = .undef
 · subst hu
   obtain rfl:i = 0:=by simpa [TV.cells] using hi'
   exact .undef _
 · exact zbgx ((zbiz h hu).2 i hi')
theorem zb5b:∀ (ps:List (Nat × Nat × TV)) (qs:List (Nat × Nat × Value)) (cs:List TV) (ds:List Value) (cs':List TV),LR σ e tk cs ds → ps.length = qs.length →
 (∀ (i:Nat) (p:Nat × Nat × TV) (q:Nat × Nat × Value),ps[i]? = some p → qs[i]? = some q → p.1 = q.1 ∧ p.2.1 = q.2.1 ∧ TR σ e tk p.2.2 q.2.2) → zbcw cs ps = some cs' → ∃ ds',dm ds qs = some ds' ∧ LR σ e tk cs' ds'
 | [],[],cs,ds,cs',h,_,_,hf => by injection hf with hf; subst hf; exact ⟨ds,rfl,h⟩
 | [],_ :: _,_,_,_,_,hl,_,_ => by cases hl
 | _ :: _,[],_,_,_,_,hl,_,_ => by cases hl
 | (off,sz,v) :: r,(off',sz',w) :: qs,cs,ds,cs',h,hl,hr,hf => by
  obtain ⟨h1,h2,h3⟩:=hr 0 _ _ rfl rfl
  simp only at h1 h2 h3
  subst h1 h2
  simp only [zbcw] at hf
  split at hf
  · rename_i hc
    have hcl:=(zbiz h3 (by rintro rfl; cases hc.1)).1
    obtain ⟨ds',e1,e2⟩:=zb5b r qs _ _ cs' (zaaw (v.cells.map TV.part) w.cells.toList cs ds off h (zb92 h3 hcl)) (by simpa using hl) (fun i p q hp hq => hr (i + 1) p q (by simpa using hp) (by simpa using hq)) hf
    refine ⟨ds',?_,e2⟩
    simp only [dm]
    rw [if_pos ⟨by rw [← hcl]; exact hc.2.1,by rw [← h.1]; exact hc.2.2⟩]
    exact e1
  · cases hf
theorem zbgl {i:I} {v:TV} (h:tP i fr τ = some v) (hs:St B e fr tk τ fr' σ) (K:Value → ah → Prop) (hK:∀ w,TR σ e tk v w → K w σ):evI P i K fr' σ:=by
 cases i with
 | mov x => injection h with h; subst h; exact hK _ (hs.op x)
 | pick c a b =>
  simp only [tP] at h
  split at h
  · rename_i t ht
    injection h with h; subst h
    have:=hs.op c
    rw [ht] at this
    simp only [evI,np this]
    refine hK _ ?_
    cases t
    · exact hs.op b
    · exact hs.op a
  · cases h
 | load1 x =>
  simp only [tP] at h
  have hx:=hs.op x
  split at h
  · rename_i id off ht
    rw [ht] at hx
    obtain ⟨hid,e1⟩:=n6 hx
    obtain ⟨w,h1,h2⟩:=za79 hs hid h
    simp only [evI,e1,a8,h1,mq]
    exact hK _ h2
  · rename_i cs off ht
    rw [ht] at hx
    obtain ⟨g,o,t,ws,md,h1,h2,h3,h4,e1⟩:=zbc1 hx
    have hlt:=rq h
    have hl:σ.load g (o + off) = some (ws.getD (o + off) undef):=by unfold ah.load; rw [h1]; exact zblv _ (by omega)
    simp only [evI,e1,a8,hl,mq]
    have:=h4 off hlt
    rw [gj h] at this
    exact hK _ (.pr this)
  · cases h
 | loadN n x =>
  simp only [tP] at h
  have hx:=hs.op x
  split at h
  · rename_i id off ht
    rw [ht] at hx
    obtain ⟨hid,e1⟩:=n6 hx
    split at h
    · cases h
    rename_i hn0
    obtain ⟨l,hl,rfl⟩:=Option.map_eq_some_iff.1 h
    obtain ⟨ws,h1,h2,h3,h4⟩:=za78 hs hid hn0 hl
    simp only [evI,e1,a8,h1,mq]
    exact hK _ (.agg _ _ (by simpa using h2) fun j hj => by rw [bh]; exact h4 j hj)
  · rename_i cs off ht
    rw [ht] at hx
    obtain ⟨g,o,t,ws,md,h1,h2,h3,h4,e1⟩:=zbc1 hx
    split at h
    · rename_i hle
      injection h with h; subst h
      have hr:=zbi3 h1 (o:=o + off) (n:=n) (by omega)
      simp only [evI,e1,a8,hr,mq]
      refine hK _ (.agg _ _ (by simp; omega) fun j hj => ?_)
      have hjn:j < n:=by simp at hj; omega
      rw [bh,dc _ _ _ _ _ hjn,dc _ _ _ _ _ hjn]
      have:=h4 (off + j) (by omega)
      rw [← Nat.add_assoc] at this
      exact .pr this
    · cases h
  · cases h
 | nilchk x =>
  simp only [tP] at h
  have hx:=hs.op x
  split at h
  · rename_i id off ht
    rw [ht] at hx
    injection h with h; subst h
    have e1:=(n6 hx).2
    simp only [evI]
    rw [e1] at hx ⊢
    exact hK _ hx
  · rename_i cs off ht
    rw [ht] at hx
    injection h with h; subst h
    obtain ⟨g,o,t,ws,md,h1,h2,h3,h4,e1⟩:=zbc1 hx
    simp only [evI]
    rw [e1] at hx ⊢
    exact hK _ hx
  · rename_i f a b ht
    rw [ht] at hx
    injection h with h; subst h
    obtain ⟨c,d,e1,_⟩:=zbiw hx
    simp only [evI]
    rw [e1] at hx ⊢
    exact hK _ hx
  · cases h
 | bin op x y =>
  simp only [tP] at h
  obtain ⟨r,h1,h2⟩:=zbge (hs.op x) (hs.op y) h
  simp only [evI,h1,mq]
  exact hK _ (.pr h2)
 | eqB neg x y =>
  simp only [tP] at h
  split at h
  · rename_i p q h1 h2
    injection h with h; subst h
    have hx:=hs.op x
    have hy:=hs.op y
    rw [h1] at hx
    rw [h2] at hy
    simp only [evI,np hx,np hy,pj]
    exact hK _ (.pr (.bool _))
  · cases h
 | isNil k neg x =>
  simp only [tP] at h
  obtain ⟨b,hb,rfl⟩:=Option.map_eq_some_iff.1 h
  simp only [evI,zbgd (hs.op x) hb,mq]
  exact hK _ (.pr (.bool _))
 | un op x =>
  simp only [tP] at h
  obtain ⟨r,h1,h2⟩:=zbjk (hs.op x) h
  simp only [evI,h1,mq]
  exact hK _ (.pr h2)
 | conv k x =>
  simp only [tP] at h
  split at h
  · rename_i k' n ht
    injection h with h; subst h
    have hx:=hs.op x
    rw [ht] at hx
    simp only [evI,jv hx,ao]
    exact hK _ (.pr (.int _ _))
  · cases h
 | convS x =>
  simp only [tP] at h
  split at h
  · rename_i s ht
    injection h with h; subst h
    have hx:=hs.op x
    rw [ht] at hx
    simp only [evI,up hx,b8]
    exact hK _ (.pr (.str _))
  · cases h
 | fieldAddr off x =>
  simp only [tP] at h
  have hx:=hs.op x
  split at h
  · rename_i id o ht
    rw [ht] at hx
    injection h with h; subst h
    obtain ⟨hid,e1⟩:=n6 hx
    simp only [evI,e1,a8]
    exact hK _ (.ptr id (o + off) hid)
  · rename_i cs o ht
    rw [ht] at hx
    injection h with h; subst h
    obtain ⟨g,o',t,ws,md,h1,h2,h3,h4,e1⟩:=zbc1 hx
    simp only [evI,e1,a8]
    refine hK _ ?_
    have:=TR.rptr (σ:=σ) (e:=e) (tk:=tk) cs (o + off) g o' t ws md h1 h2 h3 h4
    rwa [← Nat.add_assoc] at this
  · cases h
 | field1 off x =>
  simp only [tP] at h
  split at h
  · rename_i cs ht
    have hx:=hs.op x
    rw [ht] at hx
    obtain ⟨c,e1,h1,h2⟩:=zbcy hx
    have hlt:=rq h
    simp only [evI,e1,dd]
    refine ⟨by omega,hK _ ?_⟩
    have:=h2 off hlt
    rwa [gj h] at this
  · cases h
 | fieldN off n x =>
  simp only [tP] at h
  split at h
  · rename_i cs ht
    split at h
    · rename_i hle
      injection h with h; subst h
      have hx:=hs.op x
      rw [ht] at hx
      obtain ⟨c,e1,h1,h2⟩:=zbcy hx
      simp only [evI,e1,dd]
      refine ⟨by omega,hK _ (.agg _ _ (by simp; omega) fun j hj => ?_)⟩
      have hjn:j < n:=by simp at hj; omega
      rw [dc _ _ _ _ _ hjn,Array.getD_eq_getD_getElem?,Array.getElem?_extract,if_pos (by omega),← Array.getD_eq_getD_getElem?]
      exact h2 (off + j) (by omega)
    · cases h
  · cases h
 | indexPtr len sz x y =>
  simp only [tP] at h
  have hx:=hs.op x
  have hy:=hs.op y
  split at h
  · rename_i id o k n h1 h2
    rw [h1] at hx
    rw [h2] at hy
    split at h
    · rename_i hb
      injection h with h; subst h
      obtain ⟨hid,e1⟩:=n6 hx
      simp only [evI,e1,jv hy,a8,ao]
      exact ⟨hb,hK _ (.ptr id _ hid)⟩
    · cases h
  · rename_i cs o k n h1 h2
    rw [h1] at hx
    rw [h2] at hy
    split at h
    · rename_i hb
      injection h with h; subst h
      obtain ⟨g,o',t,ws,md,h1,h2,h3,h4,e1⟩:=zbc1 hx
      simp only [evI,e1,jv hy,a8,ao]
      refine ⟨hb,hK _ ?_⟩
      have:=TR.rptr (σ:=σ) (e:=e) (tk:=tk) cs (o + n.toNat * sz) g o' t ws md h1 h2 h3 h4
      rwa [← Nat.add_assoc] at this
    · cases h
  · cases h
 | indexSl sz x y =>
  simp only [tP] at h
  have hx:=hs.op x
  have hy:=hs.op y
  split at h
  · rename_i k n h2
    rw [h2] at hy
    split at h
    · rename_i id o len s h1
      rw [h1] at hx
      split at h
      · rename_i hb
        obtain ⟨b1,b2,rfl⟩:=hb
        injection h with h; subst h
        obtain ⟨hid,e1⟩:=zbcz hx
        simp only [evI,e1,jv hy,kSl,ao]
        exact ⟨⟨b1,b2⟩,hK _ (.ptr id _ hid)⟩
      · cases h
    · obtain ⟨l,hl,h⟩:=Option.bind_eq_some_iff.1 h
      split at h
      · rename_i hb
        obtain ⟨b1,b2,b3⟩:=hb
        injection h with h; subst h
        have hne:l ≠ []:=by rintro rfl; simp at b2; omega
        obtain ⟨g,o,s,t,cs,md,q0,q1,q2,q3,q4,q5,e1⟩:=qn hne (sc hl hx)
        have hn:n.toNat < l.length:=by omega
        have hs':s = sz:=by rw [← b3]; exact (q4 n.toNat hn).symm
        subst hs'
        simp only [evI,e1,jv hy,kSl,ao]
        refine ⟨⟨b1,b2⟩,hK _ ?_⟩
        have hle:(n.toNat + 1) * s ≤ l.length * s:=Nat.mul_le_mul_right _ hn
        rw [Nat.add_mul,Nat.one_mul] at hle
        have:=TR.rptr (σ:=σ) (e:=e) (tk:=tk) (l.getD n.toNat .undef).cells 0 g (o + n.toNat * s) t cs md q1 q2 (by rw [q4 _ hn]; omega) (fun j hj => q5 _ hn j (by rw [← q4 _ hn]; exact hj))
        simpa using this
      · cases h
  · cases h
 | indexStr x y =>
  simp only [tP] at h
  split at h
  · rename_i s k n h1 h2
    have hx:=hs.op x
    have hy:=hs.op y
    rw [h1] at hx
    rw [h2] at hy
    split at h
    · rename_i hb
      injection h with h; subst h
      simp only [evI,up hx,jv hy,b8,ao]
      exact ⟨hb,hK _ (.pr (.int _ _))⟩
    · cases h
  · cases h
 | sliceStr x lo hi =>
  simp only [tP] at h
  split at h
  · rename_i s h1
    have hx:=hs.op x
    rw [h1] at hx
    obtain ⟨lh,hb,rfl⟩:=Option.map_eq_some_iff.1 h
    obtain ⟨l1,l2⟩:=zbm0 hs lo
    obtain ⟨u1,u2⟩:=zbm0 hs hi
    simp only [evI,up hx,b8,zboi l1 l2 u1 u2 hb,mq]
    exact hK _ (.pr (.str _))
  · cases h
 | sliceSl sz x lo hi =>
  obtain ⟨l1,l2⟩:=zbm0 hs lo
  obtain ⟨u1,u2⟩:=zbm0 hs hi
  have hx:=hs.op x
  have go:∀ l:List TV,(tO fr x).list = some l → (if l.all (fun e => e.cells.length == sz) && !l.isEmpty then (gv l.length (lo.map (tO fr)) (hi.map (tO fr))).map fun lh => TV.sl ((l.take lh.2).drop lh.1) else none) = some v → evI P (.sliceSl sz x lo hi) K fr' σ:=fun l hl h => by
   split at h
   · rename_i hc
     simp only [Bool.and_eq_true,List.all_eq_true,beq_iff_eq,Bool.not_eq_true',List.isEmpty_eq_false_iff] at hc
     obtain ⟨lh,hb,rfl⟩:=Option.map_eq_some_iff.1 h
     obtain ⟨b1,b2⟩:=h9 hb
     obtain ⟨g,o,s,t,cs,md,q0,q1,q2,q3,q4,q5,e1⟩:=qn hc.2 (sc hl hx)
     have hs':s = sz:=by
      cases l with
      | nil => exact absurd rfl hc.2
      | cons a r => rw [← q4 0 (by simp)]; exact hc.1 _ (by simp)
     subst hs'
     simp only [evI,e1,kSl,zboi l1 l2 u1 u2 hb,mq]
     refine ⟨trivial,hK _ (.pr ?_)⟩
     by_cases h0:lh.1 = lh.2
     · have e2:(l.take lh.2).drop lh.1 = []:=by rw [h0]; simp
       rw [e2,h0,Nat.sub_self]
       exact .slE _ _
     · have hl':((l.take lh.2).drop lh.1).length = lh.2 - lh.1:=by simp; omega
       have gd:∀ i,i < lh.2 - lh.1 → ((l.take lh.2).drop lh.1).getD i .undef = l.getD (lh.1 + i) .undef:=fun i hi => by
        simp only [List.getD_eq_getElem?_getD,List.getElem?_drop,List.getElem?_take]
        rw [if_pos (by omega)]
       have hle:lh.2 * s ≤ l.length * s:=Nat.mul_le_mul_right _ b2
       have e3:lh.1 * s + (lh.2 - lh.1) * s = lh.2 * s:=by rw [← Nat.add_mul]; congr 1; omega
       have:=PR.sl (σ:=σ) ((l.take lh.2).drop lh.1) g (o + lh.1 * s) s t cs md (by intro e; rw [e] at hl'; simp at hl'; omega) q0 q1 q2 (by rw [hl']; omega) (fun i hi => by
        rw [hl'] at hi; rw [gd i hi]; exact q4 _ (by omega)) (fun i hi j hj => by
        rw [hl'] at hi; rw [gd i hi]
        have:=q5 (lh.1 + i) (by omega) j hj
        rw [Nat.add_mul] at this
        have e4:o + (lh.1 * s + i * s) + j = o + lh.1 * s + i * s + j:=by omega
        rw [e4] at this
        exact this)
       rw [hl'] at this
       exact this
   · cases h
  simp only [tP] at h
  split at h
  · rename_i id o len s h1
    rw [h1] at hx
    split at h
    · rename_i hs'
      subst hs'
      obtain ⟨lh,hb,rfl⟩:=Option.map_eq_some_iff.1 h
      obtain ⟨hid,e1⟩:=zbcz hx
      simp only [evI,e1,kSl,zboi l1 l2 u1 u2 hb,mq]
      exact ⟨trivial,hK _ (.slm id _ _ _ hid)⟩
    · cases h
  · rename_i l h1
    exact go l (by rw [h1]; rfl) h
  · rename_i k l h1
    exact go l (by rw [h1]; rfl) h
  · cases h
 | lenS x =>
  simp only [tP] at h
  split at h
  · rename_i s h1
    have hx:=hs.op x
    rw [h1] at hx
    injection h with h; subst h
    simp only [evI,up hx,b8]
    exact hK _ (.pr (.int _ _))
  · cases h
 | lenL x =>
  simp only [tP] at h
  have hx:=hs.op x
  split at h
  · rename_i id o n s h1
    rw [h1] at hx
    injection h with h; subst h
    simp only [evI,(zbcz hx).2,zbid]
    exact hK _ (.pr (.int _ _))
  · obtain ⟨l,hl,rfl⟩:=Option.map_eq_some_iff.1 h
    obtain ⟨a,s,e1⟩:=zbta (sc hl hx)
    simp only [evI,e1,zbid]
    exact hK _ (.pr (.int _ _))
 | min x y =>
  simp only [tP] at h
  split at h
  · rename_i k a k' b h1 h2
    have hx:=hs.op x
    have hy:=hs.op y
    rw [h1] at hx
    rw [h2] at hy
    injection h with h; subst h
    simp only [evI,jv hx,jv hy,ao]
    exact hK _ (.pr (.int _ _))
  · cases h
 | max x y =>
  simp only [tP] at h
  split at h
  · rename_i k a k' b h1 h2
    have hx:=hs.op x
    have hy:=hs.op y
    rw [h1] at hx
    rw [h2] at hy
    injection h with h; subst h
    simp only [evI,jv hx,jv hy,ao]
    exact hK _ (.pr (.int _ _))
  · cases h
 | mkFunc fn a b =>
  cases fn with
  | func f =>
   injection h with h; subst h
   simp only [evI]
   have key:∀ l:List Operand,∀ i,i < (l.map fun x => (tO fr x).canS).length → TR σ e tk ((l.map fun x => (tO fr x).canS).getD i .undef) ((l.map (evO fr')).toArray.getD i undef):=fun l i hi => by
    have hi':i < l.length:=by simpa using hi
    rw [bh]
    simp only [List.getD_eq_getElem?_getD,List.getElem?_map,List.getElem?_eq_getElem hi',Option.map_some,Option.getD_some]
    exact zbht (hs.op _)
   exact hK _ (.func _ _ _ _ _ (by simp) (by simp) (key a) (key b))
  | _ => cases h
 | extract x i =>
  simp only [tP] at h
  split at h
  · rename_i cs ht
    have hx:=hs.op x
    rw [ht] at hx
    obtain ⟨c,e1,h1,h2⟩:=zaa0 hx
    have hlt:=rq h
    simp only [evI,e1,zbm2]
    refine ⟨by omega,hK _ ?_⟩
    have:=h2 i hlt
    rwa [gj h] at this
  · cases h
 | build zero parts =>
  simp only [tP] at h
  obtain ⟨cs,hc,rfl⟩:=Option.map_eq_some_iff.1 h
  obtain ⟨ds,h1,h2,h3⟩:=zb5b (σ:=σ) (e:=e) (tk:=tk) _ (parts.map fun p => (p.1,p.2.1,evO fr' p.2.2)) (zero.map ofS) zero cs ⟨by simp,fun i hi => by
   rw [ly ofS _ _ undef _ (by simpa using hi)]; exact zbin _⟩ (by simp) (fun i p q hp hq => by
   simp only [List.getElem?_map,Option.map_eq_some_iff] at hp hq
   obtain ⟨a,ha,rfl⟩:=hp
   obtain ⟨b,hb,rfl⟩:=hq
   rw [ha] at hb; injection hb with hb; subst hb
   exact ⟨rfl,rfl,hs.op _⟩) hc
  simp only [evI,h1,mq]
  exact hK _ (.agg _ _ (by simpa using h2) fun i hi => by rw [bh]; exact h3 i hi)
 | toStr x =>
  simp only [tP] at h
  have hx:=hs.op x
  split at h
  · rename_i id off n s h1
    rw [h1] at hx
    split at h
    · rename_i hs'
      subst hs'
      obtain ⟨bs,hb,rfl⟩:=Option.map_eq_some_iff.1 h
      obtain ⟨l,hl,hb⟩:=Option.bind_eq_some_iff.1 hb
      obtain ⟨hid,e1⟩:=zbcz hx
      simp only [evI,e1,eu]
      refine ⟨fun hn => ?_,fun hn0 => ?_⟩
      · subst hn
        have:l = []:=by
         obtain ⟨b,_,hb2⟩:=Option.bind_eq_some_iff.1 hl
         split at hb2
         · injection hb2 with hb2; subst hb2; simp
         · cases hb2
        subst this
        injection hb with hb; subst hb
        exact hK _ (.pr (.str _))
      · obtain ⟨ws,g1,g2,g3,g4⟩:=za78 hs hid hn0 hl
        simp only [g1,Option.bind_some,zbnv g2 g4 hb,mq]
        exact hK _ (.pr (.str _))
    · cases h
  · obtain ⟨bs,hb,rfl⟩:=Option.map_eq_some_iff.1 h
    obtain ⟨l,hl,hb⟩:=Option.bind_eq_some_iff.1 hb
    have hp:=sc hl hx
    by_cases hne:l = []
    · subst hne
      injection hb with hb; subst hb
      have:K (.string ⟨#[]⟩) σ:=hK _ (.pr (.str _))
      simp only [evI]
      generalize evO fr' x = q at hp
      cases hp with
      | slN => exact this
      | slE a s => exact ⟨fun _ => this,fun h => (h rfl).elim⟩
      | sl _ _ _ _ _ _ _ h => exact absurd rfl h
    · obtain ⟨g,o,s,t,cs,md,q0,q1,q2,q3,q4,q5,e1⟩:=qn hne hp
      have hs1:s = 1:=by
       cases l with
       | nil => exact absurd rfl hne
       | cons a r =>
        rw [← q4 0 (by simp)]
        cases a with
        | int k n => rfl
        | _ => cases hb
      subst hs1
      rw [Nat.mul_one] at q3
      have hr:=zbi3 q1 (o:=o) (n:=l.length) q3
      have hb':ab ((cs.drop o).take l.length) = some bs:=by
       refine zbnv (σ:=σ) (e:=e) (tk:=tk) (by simp; omega) (fun i hi => ?_) hb
       rw [dc _ _ _ _ _ hi]
       have:=q5 i hi 0 (by omega)
       rw [Nat.mul_one,Nat.add_zero] at this
       have e2:(l.getD i .undef).cells.getD 0 .undef = l.getD i .undef:=by
        have:l.getD i .undef ∈ l:=by rw [gj (List.getElem?_eq_getElem hi)]; exact List.getElem_mem hi
        have key:∀ (l:List TV) (bs:List UInt8),mo l = some bs → ∀ x ∈ l,∃ n,x = .int .u8 n:=by
         intro l
         induction l with
         | nil => intro bs _ x hx; simp at hx
         | cons a r ih =>
          intro bs hb x hx
          cases a with
          | int k n =>
           cases k with
           | u8 =>
            obtain ⟨bs',hb',_⟩:=Option.map_eq_some_iff.1 hb
            rcases List.mem_cons.1 hx with rfl | hx
            · exact ⟨n,rfl⟩
            · exact ih bs' hb' x hx
           | _ => cases hb
          | _ => cases hb
        obtain ⟨n,hn⟩:=key l bs hb _ this
        rw [hn]; rfl
       rw [e2] at this
       exact .pr this
      simp only [evI,e1,eu]
      refine ⟨fun h0 => absurd (List.eq_nil_of_length_eq_zero h0) hne,fun _ => ?_⟩
      simp only [hr,Option.bind_some,hb',mq]
      exact hK _ (.pr (.str _))
 | indexAgg len x y =>
  simp only [tP] at h
  split at h
  · rename_i cs k n h1 h2
    have hx:=hs.op x
    have hy:=hs.op y
    rw [h1] at hx
    rw [h2] at hy
    split at h
    · rename_i hb
      obtain ⟨c,e1,g1,g2⟩:=zbcy hx
      have hlt:=rq h
      simp only [evI,e1,jv hy,dd,ao]
      refine ⟨⟨hb.1,hb.2.1,by omega⟩,hK _ ?_⟩
      have:=g2 _ hlt
      rwa [gj h] at this
    · cases h
  · cases h
 | indexAggN len sz x y =>
  simp only [tP] at h
  split at h
  · rename_i cs k n h1 h2
    have hx:=hs.op x
    have hy:=hs.op y
    rw [h1] at hx
    rw [h2] at hy
    split at h
    · rename_i hb
      obtain ⟨b1,b2,b3⟩:=hb
      injection h with h; subst h
      obtain ⟨c,e1,g1,g2⟩:=zbcy hx
      have hle:(n.toNat + 1) * sz ≤ len * sz:=Nat.mul_le_mul_right _ (by omega)
      rw [Nat.add_mul,Nat.one_mul] at hle
      simp only [evI,e1,jv hy,dd,ao]
      refine ⟨⟨b1,b2,by omega⟩,hK _ (.agg _ _ (by simp; omega) fun j hj => ?_)⟩
      have hjn:j < sz:=by simp at hj; omega
      rw [dc _ _ _ _ _ hjn,Array.getD_eq_getD_getElem?,Array.getElem?_extract,if_pos (by omega),← Array.getD_eq_getD_getElem?]
      exact g2 _ (by omega)
    · cases h
  · cases h
 | eqF neg ks x y =>
  simp only [tP] at h
  split at h
  · rename_i p q h1 h2
    have hx:=hs.op x
    have hy:=hs.op y
    rw [h1] at hx
    rw [h2] at hy
    obtain ⟨b,hb,rfl⟩:=Option.map_eq_some_iff.1 h
    obtain ⟨c,e1,g1,g2⟩:=zbcy hx
    obtain ⟨d,e2,g3,g4⟩:=zbcy hy
    have:=zaf6 (a':=c.toList) (c':=d.toList) (by simpa using g1) (by simpa using g3) (fun i hi => by rw [ay]; exact g2 i hi) (fun i hi => by rw [ay]; exact g4 i hi) hb
    simp only [evI,e1,e2,dd,this,mq]
    exact hK _ (.pr (.bool _))
  · cases h
 | _ => cases h
end
end Go.Proofs.Ytgkkienmocpnbaa.Sh
namespace Go.Proofs.Ytgkkienmocpnbaa.Sh
open Go Go.RowKit
section
variable {P:Program} {B:Bs} {e e':Env} {fr:TF} {tk tk':TK} {τ τ':TH} {fr':Fr} {σ σ':ah}
theorem n5 {n:Nat}:∀ {l:List TV},eo n l = true → ∀ i,i < l.length → (l.getD i .undef).under n = true
 | [],_,i,hi => by simp at hi
 | v :: r,h,i,hi => by
  simp only [eo,Bool.and_eq_true] at h
  cases i with
  | zero => simpa using h.1
  | succ i => simpa using n5 h.2 i (by simpa using hi)
theorem TR.cut {m:Nat} (hk:ye σ σ') (hb:∀ id,id < m → e'.b id = e.b id) (hn:m ≤ e'.n) {v:TV} {w:Value} (h:TR σ e tk v w):v.under m = true → TR σ' e' tk' v w:=by
 induction h with
 | undef w => exact fun _ => .undef w
 | pr h => exact fun _ => .pr (h.mono hk)
 | slz => exact fun _ => .slz
 | ptr id off h =>
  intro hu
  have:id < m:=by simpa [TV.under] using hu
  rw [← hb id this]; exact .ptr id off (by omega)
 | slm id off n sz h =>
  intro hu
  have:id < m:=by simpa [TV.under] using hu
  rw [← hb id this]; exact .slm id off n sz (by omega)
 | rptr cs off g o t ws md hat hmd hlen hr =>
  intro _
  obtain ⟨m2,h2,h3⟩:=hk g t ws md hat hmd
  exact .rptr cs off g o t ws m2 h3 h2 hlen fun j hj => (hr j hj).mono hk
 | sla => intro hu; simp [TV.under] at hu
 | slb => intro hu; simp [TV.under] at hu
 | func f a b c d ha hb' h1 h2 ih1 ih2 =>
  intro hu
  simp only [TV.under,Bool.and_eq_true] at hu
  exact .func f a b c d ha hb' (fun i hi => ih1 i hi (n5 hu.1 i hi)) (fun i hi => ih2 i hi (n5 hu.2 i hi))
 | agg a c ha h ih =>
  intro hu
  simp only [TV.under] at hu
  exact .agg a c ha fun i hi => ih i hi (n5 hu i hi)
 | tup a c ha h ih =>
  intro hu
  simp only [TV.under] at hu
  exact .tup a c ha fun i hi => ih i hi (n5 hu i hi)
theorem CR.step {id j:Nat} {v:TV} {w:Value} (hk:ye σ σ') (hb:∀ i,i < id + 1 → e'.b i = e.b i) (hn:id + 1 ≤ e'.n) (hc:∀ g,e.who g = .cell id j → e'.who g = .cell id j ∧ σ'.at g = σ.at g) (h:CR σ e id j v w):CR σ' e' id j v w:=by
 cases v with
 | slo t l =>
  refine ⟨h.1.mono hk,?_⟩
  rcases h.2 with h2 | ⟨hne,g,s,cs,q1,q2,q3,q4⟩
  · exact .inl h2
  · obtain ⟨r1,r2⟩:=hc g q2
    exact .inr ⟨hne,g,s,cs,q1,r1,by rw [r2]; exact q3,q4⟩
 | _ => exact ⟨h.1.cut hk hb hn h.2.1,h.2⟩
theorem bx.step {id:Nat} {b:Ob} (hk:ye σ σ') (hb:∀ i,i < id + 1 → e'.b i = e.b i) (hn:id + 1 ≤ e'.n) (hat:e.who (e.b id) = .obj id → σ'.at (e.b id) = σ.at (e.b id)) (hw:e.who (e.b id) = .obj id → e'.who (e.b id) = .obj id)
 (hc:∀ g j,e.who g = .cell id j → e'.who g = .cell id j ∧ σ'.at g = σ.at g) (h:bx σ e id b):bx σ' e' id b:=by
 rcases h with h | ⟨h1,cs,h2,h3,h4⟩
 · exact .inl h
 · exact .inr ⟨by rw [hb id (by omega)]; exact hw h1,cs,by rw [hb id (by omega),hat h1]; exact h2,h3,fun j hj => ⟨(h4 j hj).1.step hk hb hn (fun g => hc g j),(h4 j hj).2⟩⟩
theorem St.step (h:St B e fr tk τ fr' σ) (hs:Stp σ e tk σ' e' tk') (hnx:σ.next ≤ σ'.next) (hbl:∀ g,g < σ.next → ¬ (e.who g).mine B.lo → σ'.blk g = σ.blk g) (hn:e'.n = τ'.next) (hlo:τ'.lock = τ.lock)
 (hm:∀ g,(e'.who g).mine B.lo → B.free g) (hw:∀ g,e'.who g ≠ .none → g < σ'.next) (hwi:∀ g id,(e'.who g = .obj id ∨ ∃ j,e'.who g = .cell id j) → id < e'.n) (hwk:∀ g,g < σ.next → ¬ (e.who g).mine B.lo → e'.who g = e.who g) (hob:∀ id,id < τ'.next → ∃ b,τ'.at id = some b ∧ bx σ' e' id b):St B e' fr tk' τ' fr' σ' where
 nx:=Nat.le_trans h.nx hnx
 keep:=fun g hg hf => by rw [hbl g (Nat.lt_of_lt_of_le hg h.nx) (fun hm => hf (h.mine g hm))]; exact h.keep g hg hf
 fro:=h.fro.trans hs.keep
 n0:=Nat.le_trans h.n0 hs.n
 b0:=fun id hid => by rw [hs.b id (Nat.lt_of_lt_of_le hid h.n0)]; exact h.b0 id hid
 n:=hn
 lo:=hlo.trans h.lo
 mine:=hm
 wlt:=hw
 wid:=hwi
 old:=fun g hg hf => by rw [hwk g (Nat.lt_of_lt_of_le hg h.nx) (fun hm => hf (h.mine g hm))]; exact h.old g hg hf
 ob:=hob
 fm:=fun t => (h.fm t).step hs
structure Chg (S:Nat → Prop) (e:Env) (σ:ah) (e':Env) (σ':ah):Prop where
 keep:ye σ σ'
 nx:σ.next ≤ σ'.next
 n:e.n ≤ e'.n
 b:∀ id,id < e.n → e'.b id = e.b id
 ob:∀ id,id < e.n → e.who (e.b id) = .obj id → ¬ S id → σ'.at (e.b id) = σ.at (e.b id)
theorem Chg.refl (S:Nat → Prop) (e:Env) (σ:ah):Chg S e σ e σ:=⟨.refl _,Nat.le_refl _,Nat.le_refl _,fun _ _ => rfl,fun _ _ _ _ => rfl⟩
theorem t8 {σ:ah} {b:Blk} {g:Nat} (h:g < σ.next):(σ.push b).blk g = σ.blk g:=by simp [ah.push]; omega
theorem zbis {σ:ah} {b:Blk} {g i:Nat} (h:g ≠ i):(σ.set i b).blk g = σ.blk g:=by simp [ah.set,h]
theorem ln {σ:ah} {b:Blk} {g:Nat} (h:g < σ.next):(σ.push b).at g = σ.at g:=σ.at_push_ne b (Nat.ne_of_lt h)
theorem St.pushRo (h:St B e fr tk τ fr' σ) (b:Blk):St B e fr tk τ fr' (σ.push b) ∧ Chg (fun _ => False) e σ e (σ.push b):=by
 have hk:=ye.push σ b
 have hlt:∀ g,e.who g ≠ .none → (σ.push b).at g = σ.at g:=fun g hg => ln (h.wlt g hg)
 refine ⟨h.step ⟨hk,Nat.le_refl _,fun _ _ => rfl,fun _ h => h,fun i n t hi hn => ⟨n,t,hn,.inl ⟨rfl,.inl rfl,fun g hg => ⟨hg,hlt g (by rw [hg]; simp)⟩⟩⟩⟩ (Nat.le_succ _) (fun g hg _ => t8 hg) h.n rfl h.mine
  (fun g hg => Nat.lt_succ_of_lt (h.wlt g hg)) h.wid (fun _ _ _ => rfl) (fun id hid => ?_),hk,Nat.le_succ _,Nat.le_refl _,fun _ _ => rfl,fun id hid q _ => hlt _ (by rw [q]; simp)⟩
 obtain ⟨b',h1,h2⟩:=h.ob id hid
 exact ⟨b',h1,h2.step hk (fun _ _ => rfl) (by rw [h.n]; exact hid) (fun q => hlt _ (by rw [q]; simp)) (fun q => q) fun g j hg => ⟨hg,hlt g (by rw [hg]; simp)⟩⟩
theorem St.newTok (h:St B e fr tk τ fr' σ) (x:Option (Nat × TypeId)):St B e fr (tk ++ [x]) τ fr' σ:=by
 refine h.step ⟨.refl _,Nat.le_refl _,fun _ _ => rfl,fun i hi => by simp; omega,fun i n t hi hn => ?_⟩ (Nat.le_refl _) (fun _ _ _ => rfl) h.n rfl h.mine h.wlt h.wid (fun _ _ _ => rfl) h.ob
 rw [List.getElem?_append_left hi] at hn
 exact ⟨n,t,hn,.inl ⟨rfl,.inl rfl,fun g hg => ⟨hg,rfl⟩⟩⟩
mutual
theorem zbn9 {n m:Nat} (hnm:n ≤ m):∀ v:TV,v.under n = true → v.under m = true
 | .ptr id off,h => by simp only [TV.under,decide_eq_true_eq] at h ⊢; omega
 | .slm id off k sz,h => by simp only [TV.under,decide_eq_true_eq] at h ⊢; omega
 | .func f a b,h => by simp only [TV.under,Bool.and_eq_true] at h ⊢; exact ⟨um hnm a h.1,um hnm b h.2⟩
 | .agg cs,h => by simp only [TV.under] at h ⊢; exact um hnm cs h
 | .tup cs,h => by simp only [TV.under] at h ⊢; exact um hnm cs h
 | .sla _ _,h => by simp [TV.under] at h
 | .slb _ _,h => by simp [TV.under] at h
 | .undef,_ => rfl
 | .bool _,_ => rfl
 | .int _ _,_ => rfl
 | .str _,_ => rfl
 | .nilP,_ => rfl
 | .rptr _ _,_ => rfl
 | .slz,_ => rfl
 | .sl _,_ => rfl
 | .slo _ _,_ => rfl
 | .nilM,_ => rfl
 | .nilF,_ => rfl
 | .nilI,_ => rfl
theorem um {n m:Nat} (hnm:n ≤ m):∀ l:List TV,eo n l = true → eo m l = true
 | [],_ => rfl
 | v :: r,h => by simp only [eo,Bool.and_eq_true] at h ⊢; exact ⟨zbn9 hnm v h.1,um hnm r h.2⟩
end
theorem za9u {id j n0:Nat} {v:TV} {w:Value} (hk:ye σ σ') (hb:∀ i,i < n0 → e'.b i = e.b i) (hn:n0 ≤ e'.n) (hid:n0 ≤ id + 1) (h:TR σ e tk v w) (h1:v.one = true) (h2:v.put.under n0 = true):CR σ' e' id j v.put w:=by
 cases v with
 | sla k l => exact ⟨.pr ((sc (v:=.sla k l) rfl h).mono hk),rfl,rfl⟩
 | slb k t => obtain ⟨g,rfl,_⟩:=zbmw h; exact ⟨.pr (.slE _ _),rfl,rfl⟩
 | slo t l => cases h with | pr h => cases h
 | _ => exact ⟨h.cut hk hb hn h2,zbn9 hid _ h2,h1⟩
theorem zbl6 {v:TV} {w:Value} (h:PR σ v w):scalar w = true:=by cases h <;> rfl
theorem zbvc {v:TV} {w:Value} (h:TR σ e tk v w) (h1:v.one = true):scalar w = true:=by
 cases h with
 | undef => cases h1
 | pr h => exact zbl6 h
 | rptr => rfl
 | sla _ _ _ h => exact zbl6 h
 | agg => cases h1
 | tup => cases h1
 | _ => rfl
theorem zbi8 {id j:Nat} {v:TV} {w:Value} (h:CR σ e id j v w):scalar w = true:=by
 cases v with
 | slo t l => exact zbl6 h.1
 | _ => exact zbvc h.1 h.2.2
theorem zbi9 {τ:TH} {b:Ob}:(τ.push b).at τ.next = some b:=by simp [TH.push,TH.at,TH.next]
theorem ue {τ:TH} {b:Ob} {id:Nat} (h:id < τ.next):(τ.push b).at id = τ.at id:=by
 simp only [TH.push,TH.at,TH.next] at *
 exact List.getElem?_append_left h
theorem va {τ:TH} {b:Ob}:(τ.push b).next = τ.next + 1:=by simp [TH.push,TH.next]
theorem zb77 {v:TV} (h:v.cells.all TV.one = true):v ≠ .undef:=by rintro rfl; simp [TV.cells,TV.one] at h
def Env.new (e:Env) (g:Nat):Env:=⟨fun i => if i = e.n then g else e.b i,e.n + 1,fun k => if k = g then .obj e.n else e.who k⟩
theorem St.pushOb (h:St B e fr tk τ fr' σ) {t:TypeId} {cs:List TV} {ws:List Value} (hl:ws.length = cs.length) (hc:∀ j,j < ws.length → CR (σ.push (.cells t ws .rw)) (e.new σ.next) τ.next j (cs.getD j .undef) (ws.getD j undef)) :
 St B (e.new σ.next) fr tk (τ.push ⟨t,cs⟩) fr' (σ.push (.cells t ws .rw)) ∧ Chg (fun _ => False) e σ (e.new σ.next) (σ.push (.cells t ws .rw)):=by
 have hk:=ye.push σ (.cells t ws .rw)
 have hb:∀ id,id < e.n → (e.new σ.next).b id = e.b id:=fun id hid => by
  have:id ≠ e.n:=by omega
  simp [Env.new,this]
 have hlt:∀ g,e.who g ≠ .none → (σ.push (.cells t ws .rw)).at g = σ.at g:=fun g hg => ln (h.wlt g hg)
 have hw:∀ g,e.who g ≠ .none → (e.new σ.next).who g = e.who g:=fun g hg => by
  have:g ≠ σ.next:=by have:=h.wlt g hg; omega
  simp [Env.new,this]
 have hw':∀ g,g ≠ σ.next → (e.new σ.next).who g = e.who g:=fun g hg => by simp [Env.new,hg]
 refine ⟨h.step ⟨hk,Nat.le_succ _,hb,fun _ h => h,fun i n t hi hn => ⟨n,t,hn,.inl ⟨rfl,.inl rfl,fun g hg => ⟨by rw [hw g (by rw [hg]; simp)]; exact hg,hlt g (by rw [hg]; simp)⟩⟩⟩⟩ (Nat.le_succ _) (fun g hg _ => t8 hg)
  (by simp [Env.new,va,h.n]) rfl (fun g hg => ?_) (fun g hg => ?_) (fun g id hg => ?_) (fun g hg _ => hw' g (Nat.ne_of_lt hg)) (fun id hid => ?_),hk,Nat.le_succ _,Nat.le_succ _,hb,fun id hid q _ => hlt _ (by rw [q]; simp)⟩
 · by_cases hgn:g = σ.next
   · rw [hgn]; exact .inl h.nx
   · rw [hw' g hgn] at hg; exact h.mine g hg
 · by_cases hgn:g = σ.next
   · rw [hgn]; exact Nat.lt_succ_self _
   · rw [hw' g hgn] at hg; exact Nat.lt_succ_of_lt (h.wlt g hg)
 · by_cases hgn:g = σ.next
   · subst hgn
     have e1:(e.new σ.next).who σ.next = .obj e.n:=by simp [Env.new]
     rw [e1] at hg
     rcases hg with hg | ⟨j,hg⟩
     · injection hg with hg; rw [← hg]; exact Nat.lt_succ_self _
     · cases hg
   · rw [hw' g hgn] at hg; exact Nat.lt_succ_of_lt (h.wid g id hg)
 · rw [va] at hid
   by_cases hin:id = τ.next
   · subst hin
     refine ⟨_,zbi9,?_⟩
     have e1:(e.new σ.next).b τ.next = σ.next:=by simp [Env.new,h.n]
     exact .inr ⟨by rw [e1]; simp [Env.new,h.n],ws,by rw [e1]; exact σ.at_push_new _,hl,fun j hj => ⟨hc j hj,zbi8 (hc j hj)⟩⟩
   · have hid':id < τ.next:=by omega
     obtain ⟨b',h1,h2⟩:=h.ob id hid'
     refine ⟨b',by rw [ue hid']; exact h1,h2.step hk (fun i hi => hb i (by rw [h.n]; omega)) (by rw [← h.n] at hid'; simp [Env.new]; omega) (fun q => hlt _ (by rw [q]; simp)) (fun q => by rw [hw _ (by rw [q]; simp)]; exact q) fun g j hg => ?_⟩
     exact ⟨by rw [hw g (by rw [hg]; simp)]; exact hg,hlt g (by rw [hg]; simp)⟩
end
end Go.Proofs.Ytgkkienmocpnbaa.Sh
namespace Go.Proofs.Ytgkkienmocpnbaa.Sh
open Go Go.RowKit
theorem zbgp (σ:ah) (g:Nat) (b c:Blk):(σ.set g b).set g c = σ.set g c:=by
 unfold ah.set
 congr 1
 funext j
 by_cases h:j = g <;> simp [h]
theorem zbxg {σ:ah} {g:Nat} {t:TypeId}:∀ (vs cs:List Value) (o:Nat),σ.at g = .cells t cs .rw → o + vs.length ≤ cs.length → (∀ v ∈ vs,scalar v = true) → vs ≠ [] → σ.store g o vs = some (σ.set g (.cells t (iw cs o vs) .rw))
 | [],_,_,_,_,_,h => (h rfl).elim
 | v :: r,cs,o,h,hl,hs,_ => by
  have hlt:g < σ.next:=ah.lt_of_at (by rw [h]; rfl)
  have h1:σ.store1 g o v = some (σ.set g (.cells t (cs.set o v) .rw)):=by
   unfold ah.store1
   rw [h]
   have:o < cs.length:=by simp at hl; omega
   simp [this,hs v (by simp)]
  simp only [ah.store,h1,Option.bind_some]
  cases r with
  | nil => simp [ah.store,iw]
  | cons v2 r2 =>
   have:=zbxg (σ:=σ.set g (.cells t (cs.set o v) .rw)) (g:=g) (t:=t) (v2 :: r2) (cs.set o v) (o + 1) (σ.at_set_same _ hlt) (by simp at hl ⊢; omega) (fun u hu => hs u (List.mem_cons_of_mem _ hu)) (by simp)
   rw [this,zbgp]
   rfl
theorem zbxs:∀ (vs cs:List TV) (off:Nat),(de cs off vs).length = cs.length
 | [],_,_ => rfl
 | v :: r,cs,off => by simp only [de]; rw [zbxs r]; simp
theorem zbtq:∀ (vs cs:List TV) (off j:Nat),(de cs off vs).getD j .undef = if off ≤ j ∧ j < off + vs.length ∧ j < cs.length then vs.getD (j - off) .undef else cs.getD j .undef
 | [],cs,off,j => by rw [if_neg (by simp; omega)]; rfl
 | v :: r,cs,off,j => by
  simp only [de]
  rw [zbtq r]
  simp only [List.length_set,List.length_cons]
  by_cases h1:off + 1 ≤ j ∧ j < off + 1 + r.length ∧ j < cs.length
  · rw [if_pos h1,if_pos (by omega)]
    have:j - off = (j - (off + 1)) + 1:=by omega
    rw [this]; rfl
  · rw [if_neg h1]
    by_cases h2:j = off ∧ j < cs.length
    · obtain ⟨rfl,h2⟩:=h2
      rw [if_pos (by omega)]
      simp [List.getD_eq_getElem?_getD,h2]
    · rw [if_neg (by omega)]
      by_cases h3:j = off
      · subst h3
        have:cs.length ≤ j:=by omega
        simp [List.getD_eq_getElem?_getD,this]
      · simp [List.getD_eq_getElem?_getD,List.getElem?_set,Ne.symm h3]
section
variable {P:Program} {B:Bs} {e e':Env} {fr:TF} {tk tk':TK} {τ τ':TH} {fr':Fr} {σ σ':ah}
theorem ik {τ:TH} {id:Nat} {b:Ob}:(τ.put id b).next = τ.next:=by simp [TH.put,TH.next]
theorem pv {τ:TH} {id:Nat} {b:Ob} (h:id < τ.next):(τ.put id b).at id = some b:=by simp only [TH.put,TH.at,TH.next] at *; simp [h]
theorem uf {τ:TH} {id k:Nat} {b:Ob} (h:k ≠ id):(τ.put id b).at k = τ.at k:=by simp only [TH.put,TH.at]; rw [List.getElem?_set_ne (Ne.symm h)]
theorem St.storeOb (h:St B e fr tk τ fr' σ) {id off:Nat} {b:Ob} (hat:τ.at id = some b) (hid:id < τ.next) {who:Nat → Own} {vs:List TV} {ws:List Value} (hne:ws ≠ []) (hl:vs.length = ws.length) (hle:off + vs.length ≤ b.cs.length)
 (w1:∀ g i,e.who g = .obj i → who g = .obj i) (w2:∀ g i j,e.who g = .cell i j → (i ≠ id ∨ ¬ (off ≤ j ∧ j < off + vs.length)) → who g = .cell i j)
 (w3:∀ g,who g ≠ .none → e.who g ≠ .none) (w4:∀ g,(who g).mine B.lo → (e.who g).mine B.lo) (w5:∀ g,¬ (e.who g).mine B.lo → who g = e.who g) (w6:∀ g i,(who g = .obj i ∨ ∃ j,who g = .cell i j) → i < e.n) (hlo:B.lo ≤ id)
 (tl:∀ i,i < tk.length → i < tk'.length) (tt:∀ i n' t',i < tk.length → tk'[i]? = some (some (n',t')) → ∃ n t,tk[i]? = some (some (n,t)) ∧ ((n = n' ∧ (t = t' ∨ n = 0) ∧ ∀ g,e.who g = .tok i → who g = .tok i) ∨ n < n'))
 (hc:∀ σ',ye σ σ' → (∀ g,g ≠ e.b id → σ'.at g = σ.at g) → ∀ j,j < vs.length → CR σ' ⟨e.b,e.n,who⟩ id (off + j) (vs.getD j .undef) (ws.getD j undef)) :
 ∃ σ',σ.store (e.b id) off ws = some σ' ∧ St B ⟨e.b,e.n,who⟩ fr tk' (τ.put id ⟨b.t,de b.cs off vs⟩) fr' σ' ∧ Chg (· = id) e σ ⟨e.b,e.n,who⟩ σ':=by
 obtain ⟨b',hb',ho⟩:=h.ob id hid
 rw [hat] at hb'; injection hb' with hb'; subst hb'
 obtain ⟨hwho,ds,h1,h2,h3⟩:=ho.live (fun h0 => hne (by rw [h0] at hle; exact List.eq_nil_of_length_eq_zero (by rw [← hl]; have:off + vs.length ≤ 0:=hle; omega)))
 have hlt:e.b id < σ.next:=ah.lt_of_at (by rw [h1]; rfl)
 have oat:∀ g,g ≠ e.b id → (σ.set (e.b id) (.cells b.t (iw ds off ws) .rw)).at g = σ.at g:=fun g hg => σ.at_set_ne _ hg
 have hk:ye σ (σ.set (e.b id) (.cells b.t (iw ds off ws) .rw)):=fun g t cs md hg hm => by
  have:g ≠ e.b id:=by rintro rfl; rw [h1] at hg; cases hg; exact hm rfl
  exact ⟨md,hm,by rw [oat g this]; exact hg⟩
 have hc:=hc _ hk oat
 have hsc:∀ v ∈ ws,scalar v = true:=fun v hv => by
  obtain ⟨j,hj,rfl⟩:=List.mem_iff_getElem.1 hv
  have:=zbi8 (hc j (by omega))
  rwa [gj (List.getElem?_eq_getElem hj)] at this
 have nb:∀ g,e.who g ≠ .none → (∀ i,e.who g ≠ .obj i) → g ≠ e.b id:=fun g h1 h2 => by rintro rfl; exact h2 id hwho
 have binj:∀ i,e.who (e.b i) = .obj i → i ≠ id → e.b i ≠ e.b id:=fun i hi hn he => by
  have:=hi
  rw [he,hwho] at this
  injection this with this
  exact hn this.symm
 refine ⟨_,zbxg ws ds off h1 (by omega) hsc hne,?_,hk,Nat.le_refl _,Nat.le_refl _,fun _ _ => rfl,fun i hi q hn => oat _ (binj i q hn)⟩
 refine h.step ⟨hk,Nat.le_refl _,fun _ _ => rfl,tl,fun i n' t' hi hn => ?_⟩ (Nat.le_refl _) (fun g hg hm => ?_) (by rw [ik]; exact h.n) rfl (fun g hg => h.mine g (w4 g hg)) (fun g hg => h.wlt g (w3 g hg)) w6 (fun g _ hg => w5 g hg) (fun i hi => ?_)
 · obtain ⟨n,t,q1,q2⟩:=tt i n' t' hi hn
   refine ⟨n,t,q1,q2.imp (fun ⟨q2,q3,q4⟩ => ⟨q2,q3,fun g hg => ⟨q4 g hg,oat g (nb g (by rw [hg]; simp) (fun i => by rw [hg]; simp))⟩⟩) fun q => q⟩
 · have:g ≠ e.b id:=by rintro rfl; exact hm (by rw [hwho]; exact hlo)
   exact zbis this
 · rw [ik] at hi
   have cellp:∀ g i' j',e.who g = .cell i' j' → (i' ≠ id ∨ ¬ (off ≤ j' ∧ j' < off + vs.length)) → who g = .cell i' j' ∧ (σ.set (e.b id) (.cells b.t (iw ds off ws) .rw)).at g = σ.at g:=fun g i' j' hg hn =>
    ⟨w2 g i' j' hg hn,oat g (nb g (by rw [hg]; simp) (fun i => by rw [hg]; simp))⟩
   by_cases hin:i = id
   · subst hin
     refine ⟨_,pv hi,.inr ⟨w1 _ _ hwho,_,σ.at_set_same _ hlt,by rw [fw,zbxs]; exact h2,fun j hj => ?_⟩⟩
     rw [fw] at hj
     rw [zbtq,o8]
     have key:CR (σ.set (e.b i) (.cells b.t (iw ds off ws) .rw)) ⟨e.b,e.n,who⟩ i j (if off ≤ j ∧ j < off + vs.length ∧ j < b.cs.length then vs.getD (j - off) .undef else b.cs.getD j .undef)
      (if off ≤ j ∧ j < off + ws.length ∧ j < ds.length then ws.getD (j - off) undef else ds.getD j undef):=by
      by_cases hr:off ≤ j ∧ j < off + vs.length
      · rw [if_pos (by omega),if_pos (by omega)]
        have:=hc (j - off) (by omega)
        rwa [show off + (j - off) = j by omega] at this
      · rw [if_neg (by omega),if_neg (by omega)]
        exact CR.step (e:=e) hk (fun _ _ => rfl) (by have:=h.n; simp only; omega) (fun g hg => cellp g i j hg (.inr hr)) (h3 j hj).1
     exact ⟨key,zbi8 key⟩
   · obtain ⟨b2,q1,q2⟩:=h.ob i hi
     refine ⟨b2,by rw [uf hin]; exact q1,bx.step (e:=e) hk (fun _ _ => rfl) (by have:=h.n; simp only; omega) (fun q => oat _ (binj i q hin)) (fun q => w1 _ _ q) (fun g j hg => cellp g i j hg (.inl hin)) q2⟩
theorem St.nilc (h:St B e fr tk τ fr' σ) {id off:Nat} {b:Ob} (hat:τ.at id = some b) (hid:id < τ.next) (hc:b.cs[off]? = some .slz):St B e fr tk (τ.put id ⟨b.t,b.cs.set off (.sl [])⟩) fr' σ:=by
 have hlt:=rq hc
 refine { h with n:=by rw [ik]; exact h.n,lo:=h.lo,ob:=fun i hi => ?_ }
 rw [ik] at hi
 by_cases hin:i = id
 · subst hin
   obtain ⟨b',hb',ho⟩:=h.ob i hi
   rw [hat] at hb'; injection hb' with hb'; subst hb'
   obtain ⟨hwho,ds,h1,h2,h3⟩:=ho.live (fun h0 => by rw [h0] at hlt; cases hlt)
   refine ⟨_,pv hi,.inr ⟨hwho,ds,h1,by simpa using h2,fun j hj => ⟨?_,(h3 j hj).2⟩⟩⟩
   by_cases hjo:j = off
   · subst hjo
     have e1:(b.cs.set j (.sl [])).getD j .undef = .sl []:=by simp [List.getD_eq_getElem?_getD,hlt]
     have hcell:=(h3 j hj).1
     rw [gj hc] at hcell
     rw [e1]
     exact ⟨zbht hcell.1,rfl,rfl⟩
   · have e1:(b.cs.set off (.sl [])).getD j .undef = b.cs.getD j .undef:=by simp [List.getD_eq_getElem?_getD,List.getElem?_set,Ne.symm hjo]
     rw [e1]
     exact (h3 j hj).1
 · obtain ⟨b2,q1,q2⟩:=h.ob i hi
   exact ⟨b2,by rw [uf hin]; exact q1,q2⟩
theorem St.nilw (h:St B e fr tk τ fr' σ) {id off:Nat} {b:Ob} (hat:τ.at id = some b) (hid:id < τ.next) (hc:b.cs[off]? = some .slz):σ.load (e.b id) off = some (.slice none 0 0):=by
 have hlt:=rq hc
 obtain ⟨b',hb',ho⟩:=h.ob id hid
 rw [hat] at hb'; injection hb' with hb'; subst hb'
 obtain ⟨hwho,ds,h1,h2,h3⟩:=ho.live (fun h0 => by rw [h0] at hlt; cases hlt)
 have hcell:=(h3 off (by omega)).1
 rw [gj hc] at hcell
 rw [← zbfz hcell.1]
 unfold ah.load; rw [h1]; exact zblv _ (by omega)
theorem St.take (h:St B e fr tk τ fr' σ) {id off:Nat} {b:Ob} {t:TypeId} {l:List TV} (hat:τ.at id = some b) (hid:id < τ.next) (hc:b.cs[off]? = some (.slo t l)) (hlo:B.lo ≤ id) :
 ∃ w e',σ.load (e.b id) off = some w ∧ St B e' fr (tk ++ [some (l.length,t)]) (τ.put id ⟨b.t,b.cs.set off (.sl l)⟩) fr' σ ∧ TR σ e' (tk ++ [some (l.length,t)]) (.sla tk.length l) w ∧ Chg (· = id) e σ e' σ:=by
 obtain ⟨b',hb',ho⟩:=h.ob id hid
 rw [hat] at hb'; injection hb' with hb'; subst hb'
 have hlt:=rq hc
 obtain ⟨hwho,ds,h1,h2,h3⟩:=ho.live (fun h0 => by rw [h0] at hlt; cases hlt)
 have hcell:=(h3 off (by omega)).1
 rw [gj hc] at hcell
 obtain ⟨hp,hlk⟩:=hcell
 refine ⟨ds.getD off undef,⟨e.b,e.n,fun g => match e.who g with | .cell i j => if i = id ∧ j = off then .tok tk.length else .cell i j | o => o⟩,by unfold ah.load; rw [h1]; exact zblv _ (by omega),?_,?_,Chg.mk (.refl _) (Nat.le_refl _) (Nat.le_refl _) (fun _ _ => rfl) (fun _ _ _ _ => rfl)⟩
 · have wc:∀ g i j,e.who g = .cell i j → ¬ (i = id ∧ j = off) → (match e.who g with | .cell i j => if i = id ∧ j = off then Own.tok tk.length else .cell i j | o => o) = .cell i j:=fun g i j hg hn => by rw [hg]; simp only; rw [if_neg hn]
   have wo:∀ g,(∀ i j,e.who g ≠ .cell i j) → (match e.who g with | .cell i j => if i = id ∧ j = off then Own.tok tk.length else .cell i j | o => o) = e.who g:=fun g hg => by
    cases hq:e.who g with
    | cell i j => exact absurd hq (hg i j)
    | _ => rfl
   refine h.step ⟨.refl _,Nat.le_refl _,fun _ _ => rfl,fun i hi => by simp; omega,fun i n t hi hn => ?_⟩ (Nat.le_refl _) (fun _ _ _ => rfl) (by rw [ik]; exact h.n) rfl (fun g hg => ?_) (fun g hg => ?_) (fun g i hg => ?_) (fun g _ hg => ?_) (fun i hi => ?_)
   · rw [List.getElem?_append_left hi] at hn
     exact ⟨n,t,hn,.inl ⟨rfl,.inl rfl,fun g hg => ⟨by simp only; rw [wo g (by rw [hg]; simp)]; exact hg,rfl⟩⟩⟩
   · refine h.mine g ?_
     cases hq:e.who g with
     | cell i j =>
      simp only [hq] at hg
      split at hg
      · rename_i hh; simp only [Own.mine,hh.1]; exact hlo
      · exact hg
     | _ => simp only [hq] at hg; exact hg
   · refine h.wlt g ?_
     intro hq
     simp only [hq] at hg
     exact hg rfl
   · refine h.wid g i ?_
     cases hq:e.who g with
     | cell i' j' =>
      simp only [hq] at hg
      split at hg
      · rcases hg with hg | ⟨_,hg⟩ <;> cases hg
      · exact hg
     | _ => simp only [hq] at hg; exact hg
   · cases hq:e.who g with
     | cell i' j' =>
      rw [hq] at hg
      simp only [hq]
      rw [if_neg (fun hh => hg (by simp only [Own.mine,hh.1]; exact hlo))]
     | _ => simp only [hq]
   · rw [ik] at hi
     by_cases hin:i = id
     · subst hin
       refine ⟨_,pv hi,.inr ⟨by simp only; rw [wo _ (by rw [hwho]; simp)]; exact hwho,ds,h1,by simpa using h2,fun j hj => ?_⟩⟩
       have key:CR σ ⟨e.b,e.n,fun g => match e.who g with | .cell i' j => if i' = i ∧ j = off then .tok tk.length else .cell i' j | o => o⟩ i j ((b.cs.set off (.sl l)).getD j .undef) (ds.getD j undef):=by
        by_cases hjo:j = off
        · subst hjo
          have:(b.cs.set j (.sl l)).getD j .undef = .sl l:=by simp [List.getD_eq_getElem?_getD,hlt]
          rw [this]
          exact ⟨.pr hp,rfl,rfl⟩
        · have:(b.cs.set off (.sl l)).getD j .undef = b.cs.getD j .undef:=by simp [List.getD_eq_getElem?_getD,List.getElem?_set,Ne.symm hjo]
          rw [this]
          exact CR.step (e:=e) (.refl _) (fun _ _ => rfl) (by have:=h.n; simp only; omega) (fun g hg => ⟨wc g i j hg (by omega),rfl⟩) (h3 j hj).1
       exact ⟨key,zbi8 key⟩
     · obtain ⟨b2,q1,q2⟩:=h.ob i hi
       exact ⟨b2,by rw [uf hin]; exact q1,bx.step (e:=e) (.refl _) (fun _ _ => rfl) (by have:=h.n; simp only; omega) (fun _ => rfl) (fun q => by simp only; rw [wo _ (by rw [q]; simp)]; exact q) (fun g j hg => ⟨wc g i j hg (by omega),rfl⟩) q2⟩
 · refine .sla _ _ _ hp (by simp) fun n t' hn => ?_
   simp only [List.length_append,List.length_cons,List.length_nil,Nat.zero_add,List.getElem?_concat_length,Option.some.injEq,Prod.mk.injEq] at hn
   obtain ⟨rfl,rfl⟩:=hn
   refine ⟨Nat.le_refl _,fun _ => ?_⟩
   rcases hlk with hlk | ⟨hne,g,s,cs,q1,q2,q3,q4⟩
   · exact .inl hlk
   · refine .inr ⟨hne,g,s,cs,q1,?_,q3,q4⟩
     simp only [q2,and_self,if_true]
end
end Go.Proofs.Ytgkkienmocpnbaa.Sh
