import Derived.Test.YtgkkienmocpnbaaM7
set_option linter.unusedVariables false
set_option linter.unusedSimpArgs false
set_option linter.unusedSectionVars false
namespace Go.Proofs.Ytgkkienmocpnbaa.Sh
open Go Go.RowKit
section
variable {P:Program} {B:Bs} {e e':Env} {fr:TF} {tk tk':TK} {τ τ':TH} {fr':Fr} {σ σ':ah}
theorem zbnh {v:TV} {w:Value} (h:TR σ e tk v w) (hp:v.pureS = true):PR σ v w:=by
 cases h with
 | pr h => exact h
 | func f a b c d ha hb h1 h2 =>
  cases a with
  | nil =>
   cases b with
   | nil =>
    have e1:c = #[]:=Array.eq_empty_of_size_eq_zero ha.symm
    have e2:d = #[]:=Array.eq_empty_of_size_eq_zero hb.symm
    rw [e1,e2]; exact .func f
   | cons => cases hp
  | cons => cases hp
 | _ => cases hp
theorem zbgb {v:TV} {w:Value} (h:TR σ e tk v w) (hp:v.pure = true):v.cells.length = w.cells.size ∧ ∀ j,j < v.cells.length → PR σ (v.cells.getD j .undef) (w.cells.getD j undef):=by
 have hu:v ≠ .undef:=by rintro rfl; cases hp
 obtain ⟨h1,h2⟩:=zbiz h hu
 refine ⟨h1,fun j hj => zbnh (h2 j hj) ?_⟩
 by_cases ha:∃ cs,v = .agg cs
 · obtain ⟨cs,rfl⟩:=ha
   have:=List.all_eq_true.1 hp _ (List.getElem_mem hj)
   show ((TV.agg cs).cells.getD j .undef).pureS = true
   rw [gj (List.getElem?_eq_getElem hj)]; exact this
 · have e:v.cells = [v] ∧ v.pureS = true:=by
    unfold TV.pure at hp
    unfold TV.cells
    split at hp
    · exact absurd ⟨_,rfl⟩ ha
    · refine ⟨?_,hp⟩
      cases v <;> first | rfl | exact absurd ⟨_,rfl⟩ ha
   rw [e.1] at hj ⊢
   obtain rfl:j = 0:=by simpa using hj
   exact e.2
theorem zbxi {sz:Nat}:∀ {i:Nat} {ps:List (Nat × Nat × TV)} {l:List TV},uh sz i ps = some l → ∀ y ∈ l,y.pure = true
 | _,[],l,h,y,hy => by injection h with h; subst h; cases hy
 | i,(off,n,v) :: r,l,h,y,hy => by
  simp only [uh] at h
  split at h
  · rename_i hc
    obtain ⟨l',hl',rfl⟩:=Option.map_eq_some_iff.1 h
    rw [List.mem_cons] at hy
    rcases hy with rfl | hy
    · exact hc.2.2.2
    · exact zbxi hl' y hy
  · cases h
theorem zbtj {sz:Nat}:∀ (ps:List (Nat × Nat × TV)) (qs:List (Nat × Nat × Value)) (i:Nat) (cs:List Value) (l:List TV),ps.length = qs.length →
 (∀ (i:Nat) (p:Nat × Nat × TV) (q:Nat × Nat × Value),ps[i]? = some p → qs[i]? = some q → p.1 = q.1 ∧ p.2.1 = q.2.1 ∧ TR σ e tk p.2.2 q.2.2) → uh sz i ps = some l → (i + ps.length) * sz ≤ cs.length →
 ∃ cs',dm cs qs = some cs' ∧ cs'.length = cs.length ∧ (∀ k,k < i * sz → cs'.getD k undef = cs.getD k undef) ∧ l.length = ps.length ∧ ∀ a,a < l.length → (l.getD a .undef).cells.length = sz ∧ ∀ j,j < sz → PR σ ((l.getD a .undef).cells.getD j .undef) (cs'.getD ((i + a) * sz + j) undef)
 | [],[],i,cs,l,_,_,h,_ => by injection h with h; subst h; exact ⟨cs,rfl,rfl,fun _ _ => rfl,rfl,fun a ha => by simp at ha⟩
 | [],_ :: _,_,_,_,hl,_,_,_ => by cases hl
 | _ :: _,[],_,_,_,hl,_,_,_ => by cases hl
 | (off,n,v) :: r,(off',n',w) :: qs,i,cs,l,hl,hr,h,hle => by
  obtain ⟨h1,h2,h3⟩:=hr 0 _ _ rfl rfl
  simp only at h1 h2 h3
  subst h1 h2
  simp only [uh] at h
  split at h
  · rename_i hc
    obtain ⟨rfl,rfl,hc1,hc2⟩:=hc
    obtain ⟨l',hl',rfl⟩:=Option.map_eq_some_iff.1 h
    obtain ⟨p1,p2⟩:=zbgb (zbpo h3) hc2
    rw [hc1] at p1 p2
    simp only [List.length_cons] at hle
    have hle2:i * n + n ≤ cs.length:=by
     have:(i + 1) * n ≤ (i + (r.length + 1)) * n:=Nat.mul_le_mul_right _ (by omega)
     rw [Nat.add_mul i 1,Nat.one_mul] at this
     omega
    obtain ⟨cs',q1,q2,q3,q4,q5⟩:=zbtj r qs (i + 1) (iw cs (i * n) w.cells.toList) l' (by simpa using hl) (fun i p q hp hq => hr (i + 1) p q (by simpa using hp) (by simpa using hq)) hl'
     (by rw [fw]; have e:i + 1 + r.length = i + (r.length + 1):=(by omega); rw [e]; exact hle)
    rw [fw] at q2
    refine ⟨cs',?_,q2,fun k hk => ?_,by simp [q4],fun a ha => ?_⟩
    · simp only [dm]
      rw [if_pos ⟨p1.symm,hle2⟩]; exact q1
    · rw [q3 k (by rw [Nat.add_mul]; omega),o8,if_neg (by omega)]
    · cases a with
      | zero =>
       simp only [List.getD_cons_zero,Nat.add_zero]
       refine ⟨hc1,fun j hj => ?_⟩
       rw [q3 _ (by rw [Nat.add_mul,Nat.one_mul]; omega),o8,if_pos ⟨by omega,by simp; omega,by omega⟩,Nat.add_sub_cancel_left,ay]
       exact p2 j hj
      | succ a =>
       simp only [List.getD_cons_succ]
       obtain ⟨g1,g2⟩:=q5 a (by simpa using ha)
       refine ⟨g1,fun j hj => ?_⟩
       have:=g2 j hj
       rwa [show i + 1 + a = i + (a + 1) by omega] at this
  · cases h
theorem zbux {l:List TV} (h:∀ v ∈ l,v.pureS = true) (hne:l ≠ []):(za9s l).cells = l:=by
 unfold za9s
 split
 · rename_i v
   have:=h v (by simp)
   cases v <;> first | rfl | cases this
 · rfl
theorem zbcq {v:TV} (h:v.canS.pureS = true) (n:Nat):v.one = true ∧ v.put.under n = true:=by
 cases v with
 | func f a b =>
  cases a with
  | nil => cases b with
   | nil => exact ⟨rfl,by simp [TV.put,TV.under,eo]⟩
   | cons => cases h
  | cons => cases h
 | _ => first | exact ⟨rfl,rfl⟩ | cases h
theorem zbyd {α:Type} (d:α) (z:List α):∀ (n j:Nat),j < n * z.length → ((List.replicate n z).flatten).getD j d = z.getD (j % z.length) d
 | 0,j,h => by simp at h
 | n + 1,j,h => by
  rw [List.replicate_succ,List.flatten_cons]
  by_cases hj:j < z.length
  · simp only [List.getD_eq_getElem?_getD,List.getElem?_append_left hj,Nat.mod_eq_of_lt hj]
  · have e:j % z.length = (j - z.length) % z.length:=(Nat.mod_eq_sub_mod (by omega))
    simp only [List.getD_eq_getElem?_getD,List.getElem?_append_right (show z.length ≤ j by omega)]
    have:=zbyd d z n (j - z.length) (by rw [Nat.add_mul,Nat.one_mul] at h; omega)
    simp only [List.getD_eq_getElem?_getD] at this
    rw [this,e]
theorem zbwe (s:ByteArray):Rows σ (az s) 1 (di s):=by
 refine ⟨by simp [az,di],fun i hi => ?_,fun i hi j hj => ?_⟩
 all_goals
  have hi':i < s.data.toList.length:=by simpa [az] using hi
  have e1:(az s).getD i .undef = .int .u8 (s.data.toList[i]).toNat:=by
   simp only [az,List.getD_eq_getElem?_getD,List.getElem?_map,List.getElem?_eq_getElem hi',Option.map_some,Option.getD_some]
  rw [e1]
 · rfl
 · obtain rfl:j = 0:=by omega
   have e2:(di s).getD (i * 1 + 0) undef = .int .u8 (s.data.toList[i]).toNat:=by
    simp only [di,Nat.mul_one,Nat.add_zero,List.getD_eq_getElem?_getD,List.getElem?_map,List.getElem?_eq_getElem hi',Option.map_some,Option.getD_some]
   rw [e2]; exact .int _ _
def sd (o:Option (Option Nat)) (id:Nat):Prop:=match o with | none => False | some none => True | some (some k) => id = k
theorem zbdu {i:I} {m:Nat} {v:TV} {d:Option Nat} {g:Option (Nat × Bool)} (h:tOp i m fr tk τ = some (v,tk',τ')) (hs:St B e fr tk τ fr' σ) (K:Value → ah → Prop)
 (hK:∀ e' σ' w,St B e' fr tk' τ' fr' σ' → TR σ' e' tk' v w → Chg (sd (p9 ⟨⟨d,i,g⟩,m⟩ fr)) e σ e' σ' → K w σ'):evI P i K fr' σ:=by
 have plain:(tP i fr τ).map (fun v => (v,tk,τ)) = some (v,tk',τ') → evI P i K fr' σ:=fun h => by
  obtain ⟨v',hv,he⟩:=Option.map_eq_some_iff.1 h
  simp only [Prod.mk.injEq] at he
  obtain ⟨rfl,rfl,rfl⟩:=he
  exact zbgl hv hs K fun w hw => hK e σ w hs hw (.refl _ _ _)
 have mono:∀ {e':Env} {σ':ah},Chg (fun _ => False) e σ e' σ' → Chg (sd (p9 ⟨⟨d,i,g⟩,m⟩ fr)) e σ e' σ':=fun hc => ⟨hc.keep,hc.nx,hc.n,hc.b,fun id hid q _ => hc.ob id hid q (fun h => h)⟩
 cases i with
 | mov x =>
  simp only [tOp] at h
  split at h
  · have hx:=hs.op x
    split at h
    · rename_i hz
      simp only [Option.some.injEq,Prod.mk.injEq] at h
      obtain ⟨rfl,rfl,rfl⟩:=h
      rw [hz] at hx
      simp only [evI,zbfz hx]
      refine hK e σ _ (hs.newTok _) (.sla _ _ _ .slN (by simp) fun n t' hn => ?_) (.refl _ _ _)
      simp only [List.getElem?_concat_length,Option.some.injEq,Prod.mk.injEq] at hn
      obtain ⟨rfl,rfl⟩:=hn
      exact ⟨Nat.le_refl _,fun _ => .inl ⟨rfl,rfl⟩⟩
    · cases h
  split at h
  · simp only [Option.some.injEq,Prod.mk.injEq] at h
    obtain ⟨rfl,rfl,rfl⟩:=h
    exact hK e σ _ hs (zbpp (hs.op x)) (.refl _ _ _)
  · exact plain (by simpa [tP] using h)
 | load1 x =>
  simp only [tOp] at h
  split at h
  · rename_i hm
    have hx:=hs.op x
    split at h
    · rename_i id off hz
      rw [hz] at hx
      obtain ⟨hid,e1⟩:=n6 hx
      obtain ⟨b,hb,h⟩:=Option.bind_eq_some_iff.1 h
      split at h
      · rename_i t l hc
        split at h
        · rename_i hlo
          simp only [Option.some.injEq,Prod.mk.injEq] at h
          obtain ⟨rfl,rfl,rfl⟩:=h
          obtain ⟨w,e2,h1,h2,h3,h4⟩:=hs.take hb (by rw [← hs.n]; exact hid) hc (by rw [← hs.lo]; exact hlo)
          simp only [evI,e1,a8,h1,mq]
          refine hK e2 σ w h2 h3 ⟨h4.keep,h4.nx,h4.n,h4.b,fun k hk q hn => h4.ob k hk q fun hkk => hn ?_⟩
          simp only [p9,hz,if_pos hm,sd]
          exact hkk
        · cases h
      · rename_i hc
        split at h
        · simp only [Option.some.injEq,Prod.mk.injEq] at h
          obtain ⟨rfl,rfl,rfl⟩:=h
          have g1:=hs.nilw hb (by rw [← hs.n]; exact hid) hc
          simp only [evI,e1,a8,g1,mq]
          refine hK e σ _ ((hs.nilc hb (by rw [← hs.n]; exact hid) hc).newTok _) (.sla _ _ _ .slN (by simp) fun n t' hn => ?_) (.refl _ _ _)
          simp only [List.getElem?_concat_length,Option.some.injEq,Prod.mk.injEq] at hn
          obtain ⟨rfl,rfl⟩:=hn
          exact ⟨Nat.le_refl _,fun _ => .inl ⟨rfl,rfl⟩⟩
        · cases h
      · cases h
    · cases h
  · exact plain h
 | box t n x =>
  simp only [tOp] at h
  split at h
  · rename_i hc
    simp only [Option.some.injEq,Prod.mk.injEq] at h
    obtain ⟨rfl,rfl,rfl⟩:=h
    have hx:=hs.op x
    obtain ⟨c1,c2⟩:=zbiz hx (zb77 hc.1)
    have hall:∀ j,j < (tO fr x).cells.length → ((tO fr x).cells.getD j .undef).one = true:=fun j hj => by
     rw [gj (List.getElem?_eq_getElem hj)]; exact List.all_eq_true.1 hc.1 _ (List.getElem_mem hj)
    obtain ⟨g1,g2⟩:=hs.pushOb (t:=t) (cs:=(tO fr x).cells.map TV.put) (ws:=(evO fr' x).cells.toList) (by simpa using c1.symm) (fun j hj => by
     have hj':j < (tO fr x).cells.length:=by rw [c1]; simpa using hj
     rw [ly TV.put _ _ .undef _ hj',ay]
     have hu:=n5 hc.2 j (by simpa using hj')
     rw [ly TV.put _ _ .undef _ hj'] at hu
     have hn:=hs.n
     exact za9u (e:=e) (ye.push _ _) (fun i hi => by have:i ≠ e.n:=(by omega); simp [Env.new,this]) (by simp only [Env.new]; omega) (Nat.le_succ _) (c2 j hj') (hall j hj') hu)
    simp only [evI]
    refine ⟨fun j hj => ?_,?_⟩
    · have hj':j < (tO fr x).cells.length:=by rw [c1]; exact hj
      exact zbvc (c2 j hj') (hall j hj')
    · refine hK _ _ _ g1 ?_ (mono g2)
      have:=TR.ptr (σ:=σ.push (.cells t (evO fr' x).cells.toList .rw)) (e:=e.new σ.next) (tk:=tk) τ.next 0 (by simp only [Env.new]; have:=hs.n; omega)
      have eb:(e.new σ.next).b τ.next = σ.next:=by simp [Env.new,hs.n]
      rwa [eb] at this
  · cases h
 | store n a x =>
  have hx:=hs.op x
  have ha:=hs.op a
  simp only [tOp] at h
  split at h
  · split at h
    · rename_i id off tok l h1 h2
      rw [h1] at ha
      rw [h2] at hx
      obtain ⟨hid,e1⟩:=n6 ha
      split at h
      · rename_i k t htk
        split at h
        · rename_i hc
          obtain ⟨rfl,rfl⟩:=hc
          obtain ⟨τ2,ht,he⟩:=Option.map_eq_some_iff.1 h
          simp only [Prod.mk.injEq] at he
          obtain ⟨rfl,rfl,rfl⟩:=he
          obtain ⟨b,hb,ht⟩:=Option.bind_eq_some_iff.1 ht
          split at ht
          · rename_i hq
            obtain ⟨q1,q2,q3,q4,q5⟩:=hq
            injection ht with ht
            subst ht
            obtain ⟨hp,hlt,_,hlk⟩:=zbp0 hx htk
            have hlk:=hlk rfl
            have cells1:(evO fr' x).cells = #[evO fr' x]:=(zboo hp).2
            have hid':id < τ.next:=by rw [← hs.n]; exact hid
            simp only [List.length_cons,List.length_nil] at q3
            have wn:∀ g,(match e.who g with | .tok i => if i = tok then Own.cell id off else .tok i | .cell i j => if i = id ∧ j = off then .none else .cell i j | o => o) ≠ .none → e.who g ≠ .none:=fun g hg hw => by
             simp only [hw] at hg; exact hg rfl
            have wm:∀ g,(match e.who g with | .tok i => if i = tok then Own.cell id off else .tok i | .cell i j => if i = id ∧ j = off then .none else .cell i j | o => o).mine B.lo → (e.who g).mine B.lo:=fun g hg => by
             cases hw:e.who g with
             | tok i => trivial
             | cell i j =>
              simp only [hw] at hg
              split at hg
              · exact hg.elim
              · exact hg
             | none => simp only [hw] at hg; exact hg
             | obj i => simp only [hw] at hg; exact hg
            have wk:∀ g,¬ (e.who g).mine B.lo → (match e.who g with | .tok i => if i = tok then Own.cell id off else .tok i | .cell i j => if i = id ∧ j = off then .none else .cell i j | o => o) = e.who g:=fun g hg => by
             cases hw:e.who g with
             | tok i => rw [hw] at hg; exact absurd trivial hg
             | cell i j =>
              rw [hw] at hg
              simp only
              rw [if_neg]
              rintro ⟨rfl,_⟩
              exact hg (by rw [← hs.lo]; exact q1)
             | _ => rfl
            have wi:∀ g i,((match e.who g with | .tok i => if i = tok then Own.cell id off else .tok i | .cell i j => if i = id ∧ j = off then .none else .cell i j | o => o) = .obj i ∨ ∃ j,(match e.who g with | .tok i => if i = tok then Own.cell id off else .tok i | .cell i j => if i = id ∧ j = off then .none else .cell i j | o => o) = .cell i j) → i < e.n:=fun g i hg => by
             cases hw:e.who g with
             | tok i' =>
              simp only [hw] at hg
              split at hg
              · rcases hg with hg | ⟨j,hg⟩
                · cases hg
                · injection hg with hg; rw [← hg]; exact hid
              · rcases hg with hg | ⟨j,hg⟩ <;> cases hg
             | cell i' j' =>
              simp only [hw] at hg
              split at hg
              · rcases hg with hg | ⟨j,hg⟩ <;> cases hg
              · exact hs.wid g i (by rw [hw]; exact hg)
             | none => simp only [hw] at hg; rcases hg with hg | ⟨j,hg⟩ <;> cases hg
             | obj i' => simp only [hw] at hg; exact hs.wid g i (by rw [hw]; exact hg)
            obtain ⟨σ2,g1,g2,g3⟩:=hs.storeOb (tk':=tk.set tok none) (who:=fun g => match e.who g with | .tok i => if i = tok then .cell id off else .tok i | .cell i j => if i = id ∧ j = off then .none else .cell i j | o => o)
             (vs:=[.slo t l]) (ws:=[evO fr' x]) hb hid' (by simp) rfl (by simpa using q3) (fun g i hg => by simp only [hg]) (fun g i j hg hn => by
              simp only [hg]; rw [if_neg]; simp only [List.length_cons,List.length_nil] at hn; omega) wn wm wk wi (by rw [← hs.lo]; exact q1) (fun i hi => by simpa using hi) (fun i n' t' hi hn => by
              by_cases hit:i = tok
              · subst hit; simp [hlt] at hn
              · rw [List.getElem?_set_ne (Ne.symm hit)] at hn
                exact ⟨n',t',hn,.inl ⟨rfl,.inl rfl,fun g hg => by simp only [hg,if_neg hit]⟩⟩) (fun σ' hk hoat j hj => by
              obtain rfl:j = 0:=by simpa using hj
              simp only [List.getD_cons_zero,Nat.add_zero]
              refine ⟨hp.mono hk,?_⟩
              rcases hlk with hlk | ⟨w1,g,s,cs,w2,w3,w4,w5⟩
              · exact .inl hlk
              · refine .inr ⟨w1,g,s,cs,w2,by simp only [w3,if_true],?_,w5⟩
                rw [hoat g ?_]; exact w4
                intro hgb
                obtain ⟨b',hb',ho⟩:=hs.ob id hid'
                rw [hb] at hb'; injection hb' with hb'; subst hb'
                obtain ⟨hwho,_⟩:=ho.live (fun h0 => by rw [h0] at q3; simp at q3)
                rw [hgb,hwho] at w3; cases w3)
            simp only [evI,e1,a8,cells1]
            refine ⟨rfl,?_⟩
            have e2:(#[evO fr' x]:Array Value).toList = [evO fr' x]:=rfl
            rw [g1]
            refine hK _ _ _ g2 (.tup [] #[] rfl fun i hi => by simp at hi) ⟨g3.keep,g3.nx,g3.n,g3.b,fun k hk q hn => g3.ob k hk q fun hkk => hn ?_⟩
            simp only [p9,h1,sd]
            exact hkk
          · cases ht
        · cases h
      · cases h
    · cases h
  · split at h
    · rename_i id off h1
      rw [h1] at ha
      obtain ⟨hid,e1⟩:=n6 ha
      split at h
      · rename_i hn
        obtain ⟨τ2,ht,he⟩:=Option.map_eq_some_iff.1 h
        simp only [Prod.mk.injEq] at he
        obtain ⟨rfl,rfl,rfl⟩:=he
        obtain ⟨b,hb,ht⟩:=Option.bind_eq_some_iff.1 ht
        split at ht
        · rename_i hq
          obtain ⟨q1,q2,q3,q4,q5⟩:=hq
          injection ht with ht
          subst ht
          have hid':id < τ.next:=by rw [← hs.n]; exact hid
          have hnu:tO fr x ≠ .undef:=by
           intro hu
           rw [hu] at q4
           simp [TV.cells,TV.put,TV.one] at q4
          obtain ⟨c1,c2⟩:=zbiz hx hnu
          have hone:∀ j,j < (tO fr x).cells.length → ((tO fr x).cells.getD j .undef).one = true:=fun j hj => by
           have:=List.all_eq_true.1 q4 _ (List.getElem_mem (show j < ((tO fr x).cells.map TV.put).length by simpa using hj))
           rw [List.getElem_map] at this
           rw [gj (List.getElem?_eq_getElem hj)]
           generalize (tO fr x).cells[j] = u at this
           cases u <;> first | rfl | exact this
          have wn:∀ g,(match e.who g with | .cell i j => if i = id ∧ off ≤ j ∧ j < off + (tO fr x).cells.length then Own.none else .cell i j | o => o) ≠ .none → e.who g ≠ .none:=fun g hg hw => by
           simp only [hw] at hg; exact hg rfl
          have wm:∀ g,(match e.who g with | .cell i j => if i = id ∧ off ≤ j ∧ j < off + (tO fr x).cells.length then Own.none else .cell i j | o => o).mine B.lo → (e.who g).mine B.lo:=fun g hg => by
           cases hw:e.who g with
           | cell i j =>
            simp only [hw] at hg
            split at hg
            · exact hg.elim
            · exact hg
           | none => simp only [hw] at hg; exact hg
           | obj i => simp only [hw] at hg; exact hg
           | tok i => trivial
          have wk:∀ g,¬ (e.who g).mine B.lo → (match e.who g with | .cell i j => if i = id ∧ off ≤ j ∧ j < off + (tO fr x).cells.length then Own.none else .cell i j | o => o) = e.who g:=fun g hg => by
           cases hw:e.who g with
           | cell i j =>
            rw [hw] at hg
            simp only
            rw [if_neg]
            rintro ⟨rfl,_⟩
            exact hg (by rw [← hs.lo]; exact q1)
           | _ => rfl
          have wi:∀ g i,((match e.who g with | .cell i j => if i = id ∧ off ≤ j ∧ j < off + (tO fr x).cells.length then Own.none else .cell i j | o => o) = .obj i ∨ ∃ j,(match e.who g with | .cell i j => if i = id ∧ off ≤ j ∧ j < off + (tO fr x).cells.length then Own.none else .cell i j | o => o) = .cell i j) → i < e.n:=fun g i hg => by
           cases hw:e.who g with
           | cell i' j' =>
            simp only [hw] at hg
            split at hg
            · rcases hg with hg | ⟨j,hg⟩ <;> cases hg
            · exact hs.wid g i (by rw [hw]; exact hg)
           | none => simp only [hw] at hg; rcases hg with hg | ⟨j,hg⟩ <;> cases hg
           | tok i' => simp only [hw] at hg; rcases hg with hg | ⟨j,hg⟩ <;> cases hg
           | obj i' => simp only [hw] at hg; exact hs.wid g i (by rw [hw]; exact hg)
          obtain ⟨σ2,g1,g2,g3⟩:=hs.storeOb (tk':=tk) (who:=fun g => match e.who g with | .cell i j => if i = id ∧ off ≤ j ∧ j < off + (tO fr x).cells.length then .none else .cell i j | o => o)
           (vs:=(tO fr x).cells.map TV.put) (ws:=(evO fr' x).cells.toList) hb hid' (fun h0 => q2 (by
            have:(tO fr x).cells.length = 0:=by rw [c1]; simpa using congrArg List.length h0
            rw [List.eq_nil_of_length_eq_zero this]; rfl)) (by simpa using c1) (by simpa using q3) (fun g i hg => by simp only [hg]) (fun g i j hg hn => by
            simp only [hg]; rw [if_neg]; simp only [List.length_map] at hn; omega) wn wm wk wi (by rw [← hs.lo]; exact q1) (fun i hi => hi) (fun i n' t' hi hn => ⟨n',t',hn,.inl ⟨rfl,.inl rfl,fun g hg => by simp only [hg]⟩⟩)
           (fun σ' hk hoat j hj => by
            have hj':j < (tO fr x).cells.length:=by simpa using hj
            rw [ly TV.put _ _ .undef _ hj',ay]
            have hu:=n5 q5 j (by simpa using hj')
            rw [ly TV.put _ _ .undef _ hj'] at hu
            exact za9u (e:=e) hk (fun _ _ => rfl) (by have:=hs.n; simp only; omega) (Nat.le_refl _) (c2 j hj') (hone j hj') hu)
          simp only [evI,e1,a8]
          refine ⟨by rw [← c1]; exact hn,?_⟩
          rw [g1]
          refine hK _ _ _ g2 (.tup [] #[] rfl fun i hi => by simp at hi) ⟨g3.keep,g3.nx,g3.n,g3.b,fun k hk q hn => g3.ob k hk q fun hkk => hn ?_⟩
          simp only [p9,h1,sd]
          exact hkk
        · cases ht
      · cases h
    · cases h
 | buildSl t sz len zeros parts =>
  simp only [tOp] at h
  split at h
  · rename_i hc
    obtain ⟨hc1,hc2,hc3⟩:=hc
    obtain ⟨l,hl,h⟩:=Option.bind_eq_some_iff.1 h
    obtain ⟨cs,q1,q2,q3,q4,q5⟩:=zbtj (σ:=σ) (e:=e) (tk:=tk) _ (parts.map fun p => (p.1,p.2.1,evO fr' p.2.2)) 0 zeros l (by simp) (fun i p q hp hq => by
     simp only [List.getElem?_map,Option.map_eq_some_iff] at hp hq
     obtain ⟨a,ha,rfl⟩:=hp
     obtain ⟨b,hb,rfl⟩:=hq
     rw [ha] at hb; injection hb with hb; subst hb
     exact ⟨rfl,rfl,hs.op _⟩) hl (by simp [hc1,hc3])
    have hll:l.length = len:=by rw [q4]; simpa using hc1
    have hrow:Rows σ l sz cs:=⟨by rw [q2,hc3,hll],fun i hi => (q5 i hi).1,fun i hi j hj => by have:=(q5 i hi).2 j hj; rwa [Nat.zero_add] at this⟩
    simp only [evI,q1,mq]
    refine ⟨List.all_eq_true.2 hrow.scalar,?_⟩
    have hpu:∀ y ∈ l,y.pure = true:=zbxi hl
    split at h
    · simp only [Option.some.injEq,Prod.mk.injEq] at h
      obtain ⟨rfl,rfl,rfl⟩:=h
      have hfl:=zbmg l hrow.c
      obtain ⟨g1,g2⟩:=hs.pushOb (t:=t) (cs:=l.flatMap TV.cells) (ws:=cs) (by rw [hfl]; exact hrow.len) (fun j hj => by
       have:=zbpm (e:=e.new σ.next) (hrow.mono (ye.push σ (.cells t cs .rw))) hpu τ.next 0 j hj
       rwa [Nat.zero_add] at this)
      refine ⟨.rw,hK _ _ _ g1 ?_ (mono g2)⟩
      have:=TR.slm (σ:=σ.push (.cells t cs .rw)) (e:=e.new σ.next) (tk:=tk) τ.next 0 l.length sz (by simp only [Env.new]; have:=hs.n; omega)
      have eb:(e.new σ.next).b τ.next = σ.next:=by simp [Env.new,hs.n]
      rw [eb,hll] at this
      rwa [hll]
    · split at h
      · split at h
        · rename_i hz
          simp only [Option.some.injEq,Prod.mk.injEq] at h
          obtain ⟨rfl,rfl,rfl⟩:=h
          have ht:i8 t sz 0 .slz l tk = some (.sla tk.length l,tk ++ [some (l.length,t)]):=by
           unfold i8
           rw [if_pos ⟨List.all_eq_true.2 fun y hy => by
            obtain ⟨i,hi,rfl⟩:=List.getElem_of_mem hy
            have:=hrow.c i hi
            rw [gj (List.getElem?_eq_getElem hi)] at this
            simp only [this,beq_self_eq_true,Bool.true_and]; exact hpu _ hy,by omega,hz.2⟩]
          have:=(zbps (w:=.slice none 0 0) ht hs .slz hc2 (fun w σ' => K w σ') fun e' σ' w' a1 a2 a3 => hK e' σ' w' a1 a2 (mono a3)).2 cs hrow hz.1
          unfold zbah eu at this
          rw [hll] at this
          rcases this with ⟨_,this | this⟩
          · exact ⟨.rw,this⟩
          · exact ⟨.app,this⟩
        · cases h
      · simp only [Option.some.injEq,Prod.mk.injEq] at h
        obtain ⟨rfl,rfl,rfl⟩:=h
        refine ⟨.ro,?_⟩
        obtain ⟨g1,g2⟩:=hs.pushRo (.cells t cs .ro)
        refine hK _ _ _ g1 (.pr ?_) (mono g2)
        by_cases hne:l = []
        · subst hne
          have:len = 0:=by simpa using hll.symm
          subst this
          exact .slE _ _
        · have:=(hrow.mono (ye.push σ (.cells t cs .ro))).pr hne hc2 (σ.at_push_new _) (by simp)
          rwa [hll] at this
  · cases h
 | makeSl t bytes zero l c =>
  simp only [tOp] at h
  split at h
  · rename_i k1 n k2 k h1 h2
    have hl:=hs.op l
    have hc:=hs.op c
    rw [h1] at hl
    rw [h2] at hc
    split at h
    · rename_i hq
      obtain ⟨b1,b2,b3,b4,b5,b6⟩:=hq
      have hz:∀ z ∈ zero,(ofS z).canS.pureS = true:=fun z hz => List.all_eq_true.1 b6 z hz
      have zpos:0 < zero.length:=by omega
      have rl:(bu n.toNat zero).length = n.toNat * zero.length:=nw _ _
      simp only [evI,jv hl,jv hc,ao]
      refine ⟨⟨b1,b2,b3,b4⟩,?_⟩
      split at h
      · simp only [Option.some.injEq,Prod.mk.injEq] at h
        obtain ⟨rfl,rfl,rfl⟩:=h
        have el:(zero.map fun z => (ofS z).put).length = zero.length:=by simp
        have fl:((List.replicate n.toNat (zero.map fun z => (ofS z).put)).flatten).length = n.toNat * zero.length:=by simp
        obtain ⟨g1,g2⟩:=hs.pushOb (t:=t) (cs:=(List.replicate n.toNat (zero.map fun z => (ofS z).put)).flatten) (ws:=bu n.toNat zero) (by rw [rl,fl]) (fun j hj => by
         rw [rl] at hj
         rw [zbyd _ _ _ _ (by rw [el]; exact hj),yl _ _ _ hj,el]
         have hm:j % zero.length < zero.length:=Nat.mod_lt _ zpos
         rw [ly _ _ _ undef _ hm]
         have hp:=hz (zero.getD (j % zero.length) undef) (by rw [gj (List.getElem?_eq_getElem hm)]; exact List.getElem_mem hm)
         obtain ⟨p1,p2⟩:=zbcq hp 0
         exact za9u (e:=e) (tk:=tk) (ye.push _ _) (fun i hi => absurd hi (Nat.not_lt_zero _)) (Nat.zero_le _) (Nat.zero_le _) (zbin _) p1 p2)
        refine ⟨.rw,hK _ _ _ g1 ?_ (mono g2)⟩
        have:=TR.slm (σ:=σ.push (.cells t (bu n.toNat zero) .rw)) (e:=e.new σ.next) (tk:=tk) τ.next 0 n.toNat zero.length (by simp only [Env.new]; have:=hs.n; omega)
        have eb:(e.new σ.next).b τ.next = σ.next:=by simp [Env.new,hs.n]
        rwa [eb] at this
      split at h
      · split at h
        rotate_left
        · cases h
        rename_i hn0
        obtain ⟨hn0,hz1⟩:=hn0
        simp only [Option.some.injEq,Prod.mk.injEq] at h
        obtain ⟨rfl,rfl,rfl⟩:=h
        have e0:bu n.toNat zero = []:=List.eq_nil_of_length_eq_zero (by rw [rl,hn0]; simp)
        refine ⟨.app,?_⟩
        rw [e0]
        have hk:=ye.push σ (.cells t [] .app)
        have hlt:∀ g,e.who g ≠ .none → (σ.push (.cells t [] .app)).at g = σ.at g:=fun g hg => ln (hs.wlt g hg)
        have hw':∀ g,e.who g ≠ .none → (if g = σ.next then Own.tok tk.length else e.who g) = e.who g:=fun g hg => by
         have:g ≠ σ.next:=by have:=hs.wlt g hg; omega
         rw [if_neg this]
        refine hK ⟨e.b,e.n,fun g => if g = σ.next then .tok tk.length else e.who g⟩ _ _ ?_ ?_ (mono ⟨hk,Nat.le_succ _,Nat.le_refl _,fun _ _ => rfl,fun id hid q _ => hlt _ (by rw [q]; simp)⟩)
        · refine hs.step ⟨hk,Nat.le_refl _,fun _ _ => rfl,fun i hi => by simp; omega,fun i n t' hi hn => ?_⟩ (Nat.le_succ _) (fun g hg _ => t8 hg) hs.n rfl (fun g hg => ?_) (fun g hg => ?_) (fun g id hg => ?_) (fun g hg _ => by simp only; rw [if_neg (Nat.ne_of_lt hg)]) (fun id hid => ?_)
          · rw [List.getElem?_append_left hi] at hn
            exact ⟨n,t',hn,.inl ⟨rfl,.inl rfl,fun g hg => ⟨by simp only; rw [hw' g (by rw [hg]; simp)]; exact hg,hlt g (by rw [hg]; simp)⟩⟩⟩
          · by_cases hgn:g = σ.next
            · rw [hgn]; exact .inl hs.nx
            · simp only [if_neg hgn] at hg; exact hs.mine g hg
          · by_cases hgn:g = σ.next
            · rw [hgn]; exact Nat.lt_succ_self _
            · simp only [if_neg hgn] at hg; exact Nat.lt_succ_of_lt (hs.wlt g hg)
          · by_cases hgn:g = σ.next
            · simp only [if_pos hgn] at hg; rcases hg with hg | ⟨_,hg⟩ <;> cases hg
            · simp only [if_neg hgn] at hg; exact hs.wid g id hg
          · obtain ⟨b,h1,h2⟩:=hs.ob id hid
            exact ⟨b,h1,bx.step (e:=e) hk (fun _ _ => rfl) (by have:=hs.n; simp only; omega) (fun q => hlt _ (by rw [q]; simp)) (fun q => by simp only; rw [hw' _ (by rw [q]; simp)]; exact q) (fun g j hg => ⟨by simp only; rw [hw' g (by rw [hg]; simp)]; exact hg,hlt g (by rw [hg]; simp)⟩) h2⟩
        · rw [hn0,hz1]
          exact .slb _ _ _ (by simp) fun n t' hn hn0 => ⟨by simp,σ.at_push_new _⟩
      · simp only [Option.some.injEq,Prod.mk.injEq] at h
        obtain ⟨rfl,rfl,rfl⟩:=h
        have ec:(za9s (zero.map fun z => (ofS z).canS)).cells = zero.map fun z => (ofS z).canS:=zbux (fun v hv => by
         obtain ⟨z,hz',rfl⟩:=List.mem_map.1 hv
         exact hz z hz') (by intro h0; rw [List.map_eq_nil_iff] at h0; rw [h0] at zpos; exact absurd zpos (Nat.lt_irrefl _))
        have gd:∀ i,i < n.toNat → (List.replicate n.toNat (za9s (zero.map fun z => (ofS z).canS))).getD i .undef = za9s (zero.map fun z => (ofS z).canS):=fun i hi => by
         simp [List.getD_eq_getElem?_getD,hi]
        have hrow:Rows σ (List.replicate n.toNat (za9s (zero.map fun z => (ofS z).canS))) zero.length (bu n.toNat zero):=⟨by rw [rl]; simp,fun i hi => by
         rw [gd i (by simpa using hi),ec]; simp,fun i hi j hj => by
         have hi':i < n.toNat:=by simpa using hi
         rw [gd i hi',ec,ly _ _ _ undef _ hj]
         have hle:(i + 1) * zero.length ≤ n.toNat * zero.length:=Nat.mul_le_mul_right _ hi'
         rw [Nat.add_mul,Nat.one_mul] at hle
         rw [yl _ _ _ (by omega),Nat.add_comm,Nat.add_mul_mod_self_right,Nat.mod_eq_of_lt hj]
         exact zbnh (zbht (zbin (e:=e) (tk:=tk) _)) (hz _ (by rw [gj (List.getElem?_eq_getElem hj)]; exact List.getElem_mem hj))⟩
        obtain ⟨g1,g2⟩:=hs.pushRo (.cells t (bu n.toNat zero) .ro)
        refine ⟨.ro,hK _ _ _ g1 (.pr ?_) (mono g2)⟩
        by_cases hn0:n.toNat = 0
        · rw [hn0]; exact .slE _ _
        · have:=(hrow.mono (ye.push σ (.cells t (bu n.toNat zero) .ro))).pr (by simp [hn0]) (by omega) (σ.at_push_new _) (by simp)
          simpa using this
    · cases h
  · cases h
 | append t sz bytes s x =>
  simp only [tOp] at h
  split at h
  · cases h
  · rename_i hsz
    obtain ⟨xs,hxs,h⟩:=Option.bind_eq_some_iff.1 h
    have hp:=sc hxs (hs.op x)
    split at h
    · rename_i hm
      obtain ⟨⟨v2,τ2⟩,ht,he⟩:=Option.map_eq_some_iff.1 h
      simp only [Prod.mk.injEq] at he
      obtain ⟨rfl,rfl,rfl⟩:=he
      unfold ir at ht
      split at ht
      · rename_i hq
        obtain ⟨hne,hall⟩:=hq
        have hcl:xs.all (fun e => e.cells.length == sz) = true:=List.all_eq_true.2 fun y hy => by
         have:=List.all_eq_true.1 hall y hy
         simp only [Bool.and_eq_true] at this
         exact this.1
        have hpu:∀ y ∈ xs,y.pure = true:=fun y hy => by
         have:=List.all_eq_true.1 hall y hy
         simp only [Bool.and_eq_true] at this
         exact this.2
        obtain ⟨g,o,s',t',cs,md,q0,q1,q2,q3,q4,q5,e1⟩:=qn hne hp
        have hss:s' = sz:=by
         have h0:0 < xs.length:=by cases xs with | nil => exact absurd rfl hne | cons => simp
         rw [← q4 0 h0]; exact zblz hcl 0 h0
        subst hss
        simp only [evI,e1,eu]
        refine ⟨fun h0 => absurd (List.eq_nil_of_length_eq_zero h0) hne,fun _ => ⟨trivial,?_⟩⟩
        rw [zbi3 q1 q3]
        have hrow:=Rows.of q3 q4 q5
        simp only [mq]
        have hsv:=hs.op s
        split at ht
        · rename_i hz
          split at ht
          · rename_i hb
            simp only [Option.some.injEq,Prod.mk.injEq] at ht
            obtain ⟨rfl,rfl⟩:=ht
            rw [hz] at hsv
            rw [zbfz hsv]
            refine ⟨hb,.inl ?_⟩
            have hfl:=zbmg xs hrow.c
            obtain ⟨g1,g2⟩:=hs.pushOb (t:=t) (cs:=xs.flatMap TV.cells) (ws:=(cs.drop o).take (xs.length * s')) (by rw [hfl]; exact hrow.len) (fun j hj => by
             have:=zbpm (e:=e.new σ.next) (hrow.mono (ye.push σ (.cells t ((cs.drop o).take (xs.length * s')) .rw))) hpu τ.next 0 j hj
             rwa [Nat.zero_add] at this)
            refine hK _ _ _ g1 ?_ (mono g2)
            have:=TR.slm (σ:=σ.push (.cells t ((cs.drop o).take (xs.length * s')) .rw)) (e:=e.new σ.next) (tk:=tk) τ.next 0 xs.length s' (by simp only [Env.new]; have:=hs.n; omega)
            have eb:(e.new σ.next).b τ.next = σ.next:=by simp [Env.new,hs.n]
            rwa [eb] at this
          · cases ht
        · rename_i id o2 n s2 hz
          obtain ⟨b,hb,ht2⟩:=Option.bind_eq_some_iff.1 ht
          clear ht
          split at ht2
          · rename_i hc
            obtain ⟨rfl,rfl,hbt,hbl,hn0,hlo,hb1,hb2⟩:=hc
            simp only [Option.some.injEq,Prod.mk.injEq] at ht2
            obtain ⟨rfl,rfl⟩:=ht2
            rw [hz] at hsv
            obtain ⟨hid,e2⟩:=zbcz hsv
            have hne2:b.cs ≠ []:=fun h0 => by
             rw [h0] at hbl
             have:0 < n * s2:=Nat.mul_pos (Nat.pos_of_ne_zero hn0) (Nat.pos_of_ne_zero hsz)
             simp at hbl; omega
            obtain ⟨ds,e3,w1,w2,w3,w4,w5,w6⟩:=hs.grow hb (by rw [← hs.n]; exact hid) (by rw [← hs.lo]; exact hlo) hne2 hbt hrow hpu
            rw [e2]
            refine ⟨rfl,rfl,⟨hb1,hb2⟩,.inl ?_⟩
            simp only [w1,mq]
            refine ⟨by omega,?_⟩
            have e4:ds.take (n * s2) = ds:=List.take_of_length_le (by omega)
            rw [e4]
            refine hK _ _ _ w5 ?_ ⟨w6.keep,w6.nx,w6.n,w6.b,fun k hk q hn => w6.ob k hk q fun hkk => hn ?_⟩
            · have:=TR.slm (σ:=(σ.set (e.b id) .dead).push (.cells t (ds ++ (cs.drop o).take (xs.length * s2)) .rw)) (e:=e3) (tk:=tk) τ.next 0 (n + xs.length) s2 w4
              rwa [w3] at this
            · simp only [p9,hz,if_pos (Or.inl hm:m = 1 ∨ m = 4),sd]
              exact hkk
          · cases ht2
        · cases ht
      · cases ht
    split at h
    · rename_i hm
      obtain ⟨⟨v2,τ2⟩,ht,he⟩:=Option.map_eq_some_iff.1 h
      simp only [Prod.mk.injEq] at he
      obtain ⟨rfl,rfl,rfl⟩:=he
      unfold zaf9 at ht
      split at ht
      · rename_i hq
        obtain ⟨hne,hall⟩:=hq
        have hcl:xs.all (fun e => e.cells.length == sz) = true:=List.all_eq_true.2 fun y hy => by
         have:=List.all_eq_true.1 hall y hy
         simp only [Bool.and_eq_true] at this
         exact this.1
        have hpu:∀ y ∈ xs,y.pure = true:=fun y hy => by
         have:=List.all_eq_true.1 hall y hy
         simp only [Bool.and_eq_true] at this
         exact this.2
        obtain ⟨g,o,s',t',cs,md,q0,q1,q2,q3,q4,q5,e1⟩:=qn hne hp
        have hss:s' = sz:=by
         have h0:0 < xs.length:=by cases xs with | nil => exact absurd rfl hne | cons => simp
         rw [← q4 0 h0]; exact zblz hcl 0 h0
        subst hss
        simp only [evI,e1,eu]
        refine ⟨fun h0 => absurd (List.eq_nil_of_length_eq_zero h0) hne,fun _ => ⟨trivial,?_⟩⟩
        rw [zbi3 q1 q3]
        have hrow:=Rows.of q3 q4 q5
        simp only [mq]
        have hsv:=hs.op s
        split at ht
        · rename_i id o2 n s2 hz
          obtain ⟨b,hb,ht2⟩:=Option.bind_eq_some_iff.1 ht
          clear ht
          split at ht2
          · rename_i hc
            obtain ⟨rfl,rfl,hbt,hbl,hne2,hlo,hb1,hb2⟩:=hc
            simp only [Option.some.injEq,Prod.mk.injEq] at ht2
            obtain ⟨rfl,rfl⟩:=ht2
            rw [hz] at hsv
            obtain ⟨hid,e2⟩:=zbcz hsv
            obtain ⟨ds,e3,w1,w2,w3,w4,w5,w6⟩:=hs.growT hb (by rw [← hs.n]; exact hid) (by rw [← hs.lo]; exact hlo) hne2 hbt hrow hpu hbl
            rw [e2]
            refine ⟨rfl,rfl,⟨hb1,hb2⟩,.inl ?_⟩
            simp only [w1,mq]
            refine ⟨by omega,?_⟩
            refine hK _ _ _ w5 ?_ ⟨w6.keep,w6.nx,w6.n,w6.b,fun k hk q hn => w6.ob k hk q fun hkk => hn ?_⟩
            · have:=TR.slm (σ:=(σ.set (e.b id) .dead).push (.cells t (ds.take (n * s2) ++ (cs.drop o).take (xs.length * s2)) .rw)) (e:=e3) (tk:=tk) τ.next 0 (n + xs.length) s2 w4
              rwa [w3] at this
            · simp only [p9,hz,if_pos (Or.inr hm:m = 1 ∨ m = 4),sd]
              exact hkk
          · cases ht2
        · cases ht
      · cases ht
    obtain ⟨⟨v2,tk2⟩,ht,he⟩:=Option.map_eq_some_iff.1 h
    simp only [Prod.mk.injEq] at he
    obtain ⟨rfl,rfl,rfl⟩:=he
    have hcl:xs.all (fun e => e.cells.length == sz) = true:=by
     have hh:=ht
     unfold i8 at hh
     split at hh
     · rename_i hq
       refine List.all_eq_true.2 fun y hy => ?_
       have:=List.all_eq_true.1 hq.1 y hy
       simp only [Bool.and_eq_true] at this
       exact this.1
     · cases hh
    obtain ⟨t1,t2⟩:=zbps ht hs (hs.op s) hsz K fun e' σ' w' a1 a2 a3 => hK e' σ' w' a1 a2 (mono a3)
    simp only [evI]
    by_cases hne:xs = []
    · subst hne
      have t1:=t1 rfl
      generalize evO fr' x = q at hp
      cases hp with
      | slN => exact t1
      | slE a s => exact ⟨fun _ => t1,fun h => (h rfl).elim⟩
      | sl _ _ _ _ _ _ _ h => exact absurd rfl h
    · obtain ⟨g,o,s',t',cs,md,q0,q1,q2,q3,q4,q5,e1⟩:=qn hne hp
      have hss:s' = sz:=by
       have h0:0 < xs.length:=by cases xs with | nil => exact absurd rfl hne | cons => simp
       rw [← q4 0 h0]; exact zblz hcl 0 h0
      subst hss
      simp only [e1,eu]
      refine ⟨fun h0 => absurd (List.eq_nil_of_length_eq_zero h0) hne,fun _ => ⟨trivial,?_⟩⟩
      rw [zbi3 q1 q3]
      exact t2 _ (Rows.of q3 q4 q5) hne
 | appendS t s x =>
  simp only [tOp] at h
  split at h
  · rename_i b hb
    obtain ⟨⟨v2,tk2⟩,ht,he⟩:=Option.map_eq_some_iff.1 h
    simp only [Prod.mk.injEq] at he
    obtain ⟨rfl,rfl,rfl⟩:=he
    have hx:=hs.op x
    rw [hb] at hx
    obtain ⟨t1,t2⟩:=zbps ht hs (hs.op s) (by decide) K fun e' σ' w' a1 a2 a3 => hK e' σ' w' a1 a2 (mono a3)
    have hlen:(az b).length = b.size:=by simp [az]
    simp only [evI,up hx,b8]
    refine ⟨fun h0 => t1 (List.eq_nil_of_length_eq_zero (by rw [hlen]; exact h0)),fun h0 => ?_⟩
    have:=t2 _ (zbwe b) (by intro h1; rw [h1] at hlen; exact h0 hlen.symm)
    rwa [hlen] at this
  · cases h
 | toBytes t x =>
  simp only [tOp] at h
  split at h
  · rename_i s hb
    have hx:=hs.op x
    rw [hb] at hx
    have hr:=zbwe (σ:=σ) s
    have hlen:(az s).length = s.size:=by simp [az]
    simp only [evI,up hx,b8]
    split at h
    · simp only [Option.some.injEq,Prod.mk.injEq] at h
      obtain ⟨rfl,rfl,rfl⟩:=h
      obtain ⟨g1,g2⟩:=hs.pushOb (t:=t) (cs:=az s) (ws:=di s) (by rw [hr.len,Nat.mul_one]) (fun j hj => by
       have hj':j < (az s).length:=by rw [hr.len,Nat.mul_one] at hj; exact hj
       have:=hr.r j hj' 0 (by omega)
       rw [Nat.mul_one,Nat.add_zero] at this
       have e1:((az s).getD j .undef).cells = [(az s).getD j .undef]:=by
        rw [gj (List.getElem?_eq_getElem hj')]
        simp only [az,List.getElem_map]; rfl
       rw [e1,List.getD_cons_zero] at this
       have e2:∃ n,(az s).getD j .undef = .int .u8 n:=by
        rw [gj (List.getElem?_eq_getElem hj')]
        simp only [az,List.getElem_map]; exact ⟨_,rfl⟩
       obtain ⟨n,e2⟩:=e2
       rw [e2] at this ⊢
       exact ⟨.pr (this.mono (ye.push _ _)),rfl,rfl⟩)
      refine ⟨.rw,hK _ _ _ g1 ?_ (mono g2)⟩
      have:=TR.slm (σ:=σ.push (.cells t (di s) .rw)) (e:=e.new σ.next) (tk:=tk) τ.next 0 s.size 1 (by simp only [Env.new]; have:=hs.n; omega)
      have eb:(e.new σ.next).b τ.next = σ.next:=by simp [Env.new,hs.n]
      rwa [eb] at this
    split at h
    · simp only [Option.some.injEq,Prod.mk.injEq] at h
      obtain ⟨hv,rfl,rfl⟩:=h
      refine ⟨.app,?_⟩
      have hk:=ye.push σ (.cells t (di s) .app)
      have hlt:∀ g,e.who g ≠ .none → (σ.push (.cells t (di s) .app)).at g = σ.at g:=fun g hg => ln (hs.wlt g hg)
      have hw':∀ g,e.who g ≠ .none → (if g = σ.next then Own.tok tk.length else e.who g) = e.who g:=fun g hg => by
       have:g ≠ σ.next:=by have:=hs.wlt g hg; omega
       rw [if_neg this]
      refine hK ⟨e.b,e.n,fun g => if g = σ.next then .tok tk.length else e.who g⟩ _ _ ?_ ?_ (mono ⟨hk,Nat.le_succ _,Nat.le_refl _,fun _ _ => rfl,fun id hid q _ => hlt _ (by rw [q]; simp)⟩)
      · refine hs.step ⟨hk,Nat.le_refl _,fun _ _ => rfl,fun i hi => by simp; omega,fun i n t' hi hn => ?_⟩ (Nat.le_succ _) (fun g hg _ => t8 hg) hs.n rfl (fun g hg => ?_) (fun g hg => ?_) (fun g id hg => ?_) (fun g hg _ => by simp only; rw [if_neg (Nat.ne_of_lt hg)]) (fun id hid => ?_)
        · rw [List.getElem?_append_left hi] at hn
          exact ⟨n,t',hn,.inl ⟨rfl,.inl rfl,fun g hg => ⟨by simp only; rw [hw' g (by rw [hg]; simp)]; exact hg,hlt g (by rw [hg]; simp)⟩⟩⟩
        · by_cases hgn:g = σ.next
          · rw [hgn]; exact .inl hs.nx
          · simp only [if_neg hgn] at hg; exact hs.mine g hg
        · by_cases hgn:g = σ.next
          · rw [hgn]; exact Nat.lt_succ_self _
          · simp only [if_neg hgn] at hg; exact Nat.lt_succ_of_lt (hs.wlt g hg)
        · by_cases hgn:g = σ.next
          · simp only [if_pos hgn] at hg; rcases hg with hg | ⟨_,hg⟩ <;> cases hg
          · simp only [if_neg hgn] at hg; exact hs.wid g id hg
        · obtain ⟨b,h1,h2⟩:=hs.ob id hid
          exact ⟨b,h1,bx.step (e:=e) hk (fun _ _ => rfl) (by have:=hs.n; simp only; omega) (fun q => hlt _ (by rw [q]; simp)) (fun q => by simp only; rw [hw' _ (by rw [q]; simp)]; exact q) (fun g j hg => ⟨by simp only; rw [hw' g (by rw [hg]; simp)]; exact hg,hlt g (by rw [hg]; simp)⟩) h2⟩
      · rw [← hv]
        by_cases h0:s.size = 0
        · rw [if_pos h0,h0]
          have e0:di s = []:=List.eq_nil_of_length_eq_zero (by rw [hr.len,hlen,h0])
          rw [e0]
          refine .slb _ _ _ (by simp) fun n t' hn hn0 => ⟨by simp,σ.at_push_new _⟩
        · rw [if_neg h0]
          have hne:az s ≠ []:=fun h1 => h0 (by rw [← hlen,h1]; rfl)
          have hp:=(hr.mono hk).pr hne (by decide) (σ.at_push_new _) (by simp)
          rw [hlen] at hp
          refine .sla _ _ _ hp (by simp) fun n t' hn => ?_
          simp only [List.getElem?_concat_length,Option.some.injEq,Prod.mk.injEq] at hn
          obtain ⟨rfl,rfl⟩:=hn
          exact ⟨by rw [hlen]; exact Nat.le_refl _,fun _ => .inr ⟨hne,σ.next,1,di s,by rw [hlen],by simp,σ.at_push_new _,hr.len⟩⟩
    · simp only [Option.some.injEq,Prod.mk.injEq] at h
      obtain ⟨rfl,rfl,rfl⟩:=h
      obtain ⟨g1,g2⟩:=hs.pushRo (.cells t (di s) .ro)
      refine ⟨.ro,hK _ _ _ g1 (.pr ?_) (mono g2)⟩
      by_cases hne:az s = []
      · rw [hne] at hlen ⊢
        rw [← hlen]; exact .slE _ _
      · have:=(hr.mono (ye.push σ (.cells t (di s) .ro))).pr hne (by decide) (σ.at_push_new _) (by simp)
        rwa [hlen] at this
  · cases h
 | _ => exact plain h
end
end Go.Proofs.Ytgkkienmocpnbaa.Sh
namespace Go.Proofs.Ytgkkienmocpnbaa.Sh
open Go Go.RowKit
structure HR (e:Env) (τ:TH) (σ:ah):Prop where
 n:e.n = τ.next
 wlt:∀ g,e.who g ≠ .none → g < σ.next
 wid:∀ g id,(e.who g = .obj id ∨ ∃ j,e.who g = .cell id j) → id < e.n
 ob:∀ id,id < τ.next → ∃ b,τ.at id = some b ∧ bx σ e id b
structure Aft0 (B:Bs) (e':Env) (τ':TH) (σ':ah):Prop where
 hr:HR e' τ' σ'
 nx:B.σ.next ≤ σ'.next
 keep:∀ g,g < B.σ.next → ¬ B.free g → σ'.blk g = B.σ.blk g
 fro:ye B.σ σ'
 n0:B.e.n ≤ e'.n
 b0:∀ id,id < B.e.n → e'.b id = B.e.b id
 old:∀ g,g < B.σ.next → ¬ B.free g → e'.who g = B.e.who g
 notok:∀ g i,e'.who g ≠ .tok i
structure Aft (B:Bs) (e':Env) (τ':TH) (σ':ah):Prop extends Aft0 B e' τ' σ' where
 lock:τ'.lock = B.lo
def zbbc (P:Program) (f:FuncId) (args:List TV) (τ:TH) (r:TV) (τ':TH):Prop :=
 ∀ (σ:ah) (e:Env) (ws:List Value),HR e τ σ → (∀ g i,e.who g ≠ .tok i) → args.length = ws.length → (∀ i,i < args.length → TR σ e [] (args.getD i .undef) (ws.getD i undef)) →
  im P f ws σ fun w σ' => ∃ e',Aft ⟨σ,e,τ.lock⟩ e' τ' σ' ∧ TR σ' e' [] r w
def ei (P:Program) (cf:CF):Prop:=∀ f args τ r τ',cf f args τ = some (r,τ') → zbbc P f args τ r τ'
def Own.noTok:Own → Own
 | .tok _ => .none
 | o => o
section
variable {P:Program} {B:Bs} {e e':Env} {fr:TF} {tk tk':TK} {τ τ':TH} {fr':Fr} {σ σ':ah}
theorem zbnj {o:Own}:o.noTok ≠ .none → o ≠ .none:=by cases o <;> simp [Own.noTok]
theorem zbh6 {o:Own} {id:Nat}:o.noTok = .obj id ↔ o = .obj id:=by cases o <;> simp [Own.noTok]
theorem uc {o:Own} {id j:Nat}:o.noTok = .cell id j ↔ o = .cell id j:=by cases o <;> simp [Own.noTok]
theorem St.hr (h:St B e fr tk τ fr' σ):HR ⟨e.b,e.n,fun g => (e.who g).noTok⟩ τ σ where
 n:=h.n
 wlt:=fun g hg => h.wlt g (zbnj hg)
 wid:=fun g id hg => h.wid g id (by simpa only [zbh6,uc] using hg)
 ob:=fun id hid => by
  obtain ⟨b,h1,h2⟩:=h.ob id hid
  exact ⟨b,h1,bx.step (e:=e) (.refl _) (fun _ _ => rfl) (by have:=h.n; simp only; omega) (fun _ => rfl) (fun q => zbh6.2 q) (fun g j hg => ⟨uc.2 hg,rfl⟩) h2⟩
theorem zbvb {lo:Nat} {o:Own} (h:o.noTok.mine lo):o.mine lo:=by cases o <;> first | exact h | exact h.elim
theorem St.after (h:St B e fr tk τ fr' σ) {lo:Nat} (hlo:B.lo ≤ lo) {e2:Env} (ha:Aft0 ⟨σ,⟨e.b,e.n,fun g => (e.who g).noTok⟩,lo⟩ e2 τ' σ') (hlk:τ'.lock = τ.lock) :
 ∃ e3:Env,e3.b = e2.b ∧ e3.n = e2.n ∧ St B e3 fr tk τ' fr' σ' ∧ (∀ g,g < σ.next → (∀ id,lo ≤ id → e.who g ≠ .obj id ∧ ∀ j,e.who g ≠ .cell id j) → σ'.blk g = σ.blk g):=by
 have fr1:∀ g,g < σ.next → (∀ id,lo ≤ id → e.who g ≠ .obj id ∧ ∀ j,e.who g ≠ .cell id j) → ¬ Bs.free ⟨σ,⟨e.b,e.n,fun g => (e.who g).noTok⟩,lo⟩ g:=fun g hg hn hf => by
  rcases hf with hf | ⟨id,h1,h2⟩
  · exact absurd hg (Nat.not_lt.2 hf)
  · rcases h2 with h2 | ⟨j,h2⟩
    · exact (hn id h1).1 (zbh6.1 h2)
    · exact (hn id h1).2 j (uc.1 h2)
 have blk:∀ g,g < σ.next → (∀ id,lo ≤ id → e.who g ≠ .obj id ∧ ∀ j,e.who g ≠ .cell id j) → σ'.blk g = σ.blk g:=fun g hg hn => ha.keep g hg (fr1 g hg hn)
 have who1:∀ g,g < σ.next → (∀ id,lo ≤ id → e.who g ≠ .obj id ∧ ∀ j,e.who g ≠ .cell id j) → e2.who g = (e.who g).noTok:=fun g hg hn => ha.old g hg (fr1 g hg hn)
 have tokn:∀ g i,e.who g = .tok i → ∀ id,lo ≤ id → e.who g ≠ .obj id ∧ ∀ j,e.who g ≠ .cell id j:=fun g i hg id _ => by rw [hg]; exact ⟨by simp,by simp⟩
 have ato:∀ g,g < σ.next → σ'.blk g = σ.blk g → σ'.at g = σ.at g:=fun g hg hb => by rw [ah.at_lt hg,ah.at_lt (Nat.lt_of_lt_of_le hg ha.nx)]; exact hb
 let W:Nat → Own:=fun g => match e.who g with | .tok i => .tok i | _ => e2.who g
 have Wt:∀ g i,e.who g = .tok i → W g = .tok i:=fun g i hg => by simp only [W,hg]
 have Wn:∀ g,(∀ i,e.who g ≠ .tok i) → W g = e2.who g:=fun g hg => by
  simp only [W]
 have e2t:∀ g i,e.who g = .tok i → e2.who g = .none:=fun g i hg => by
  have hl:=h.wlt g (by rw [hg]; simp)
  have:=who1 g hl (tokn g i hg)
  rw [this,hg]; rfl
 have Wo:∀ g id,e2.who g = .obj id → W g = .obj id:=fun g id hg => by
  rw [Wn g (fun i hi => by rw [e2t g i hi] at hg; cases hg)]; exact hg
 have Wc:∀ g id j,e2.who g = .cell id j → W g = .cell id j:=fun g id j hg => by
  rw [Wn g (fun i hi => by rw [e2t g i hi] at hg; cases hg)]; exact hg
 have Wne:∀ g,W g ≠ .none → (∃ i,e.who g = .tok i) ∨ W g = e2.who g:=fun g hg => by
  cases hq:e.who g with
  | tok i => exact .inl ⟨i,rfl⟩
  | _ => exact .inr (Wn g (by rw [hq]; simp))
 have ow:∀ g,g < σ.next → ¬ (e.who g).mine B.lo → e2.who g = (e.who g).noTok:=fun g hg hm => who1 g hg fun id hid => ⟨fun hq => hm (by rw [hq]; exact Nat.le_trans hlo hid),fun j hq => hm (by rw [hq]; exact Nat.le_trans hlo hid)⟩
 refine ⟨⟨e2.b,e2.n,W⟩,rfl,rfl,?_,blk⟩
 refine h.step ⟨ha.fro,ha.n0,ha.b0,fun _ h => h,fun i n t hi hn => ⟨n,t,hn,.inl ⟨rfl,.inl rfl,fun g hg => ⟨Wt g i hg,?_⟩⟩⟩⟩ ha.nx (fun g hg hm => ?_) ha.hr.n hlk (fun g hg => ?_) (fun g hg => ?_) (fun g id hg => ?_) (fun g hg hm => ?_) (fun id hid => ?_)
 · have hl:=h.wlt g (by rw [hg]; simp)
   exact ato g hl (blk g hl (tokn g i hg))
 · exact blk g hg fun id hid => ⟨fun hq => hm (by rw [hq]; exact Nat.le_trans hlo hid),fun j hq => hm (by rw [hq]; exact Nat.le_trans hlo hid)⟩
 · -- mine
   by_cases hl:g < σ.next
   · refine h.mine g (Classical.byContradiction fun hm => ?_)
     have hnt:∀ i,e.who g ≠ .tok i:=fun i hi => hm (by rw [hi]; trivial)
     have hg':(W g).mine B.lo:=hg
     rw [Wn g hnt,ow g hl hm] at hg'
     exact hm (zbvb hg')
   · exact .inl (Nat.le_trans h.nx (Nat.not_lt.1 hl))
 · rcases Wne g hg with ⟨i,hi⟩ | hq
   · exact Nat.lt_of_lt_of_le (h.wlt g (by rw [hi]; simp)) ha.nx
   · simp only [hq] at hg; exact ha.hr.wlt g hg
 · refine ha.hr.wid g id ?_
   cases hq:e.who g with
   | tok i =>
    have:W g = .tok i:=Wt g i hq
    simp only [this] at hg
    rcases hg with hg | ⟨_,hg⟩ <;> cases hg
   | _ => rw [← Wn g (by rw [hq]; simp)]; exact hg
 · have hnt:∀ i,e.who g ≠ .tok i:=fun i hi => hm (by rw [hi]; trivial)
   simp only
   rw [Wn g hnt,ow g hg hm]
   cases hq:e.who g with
   | tok i => exact absurd hq (hnt i)
   | _ => rfl
 · obtain ⟨b,h1,h2⟩:=ha.hr.ob id hid
   exact ⟨b,h1,bx.step (e:=e2) (.refl _) (fun _ _ => rfl) (by have:=ha.hr.n; simp only; omega) (fun _ => rfl) (fun q => Wo _ _ q) (fun g j hg => ⟨Wc g id j hg,rfl⟩) h2⟩
theorem zbhq {m:Nat} {args:List TV} {ws:List Value} (hu:eo e.n args = true) (h:∀ i,i < args.length → TR σ e tk (args.getD i .undef) (ws.getD i undef)) :
 ∀ i,i < args.length → TR σ ⟨e.b,e.n,fun g => (e.who g).noTok⟩ [] (args.getD i .undef) (ws.getD i undef):=fun i hi =>
 TR.cut (e:=e) (e':=⟨e.b,e.n,fun g => (e.who g).noTok⟩) (.refl _) (fun _ _ => rfl) (Nat.le_refl _) (h i hi) (n5 hu i hi)
theorem HR.locked {e:Env} {τ:TH} {σ:ah} (h:HR e τ σ) (n:Nat):HR e (τ.locked n) σ:=⟨h.n,h.wlt,h.wid,h.ob⟩
theorem vt {cf:CF} (hcf:ei P cf) {lk:Bool} {f:FuncId} {args:List TV} {ws:List Value} {r:TV} (h:tu cf lk f args tk τ = some (r,tk',τ')) (hs:St B e fr tk τ fr' σ) (hl:args.length = ws.length)
 (ha:∀ i,i < args.length → TR σ e tk (args.getD i .undef) (ws.getD i undef)) (K:Value → ah → Prop)
 (hK:∀ e' σ' w,St B e' fr tk' τ' fr' σ' → TR σ' e' tk' r w → Chg (fun _ => lk = false) e σ e' σ' → (lk = true → σ.le σ') → K w σ'):im P f ws σ K:=by
 unfold tu at h
 split at h
 · rename_i hu
   have hu':eo e.n args = true:=by rw [hs.n]; exact hu
   have hargs:=zbhq (m:=0) hu' ha
   have nt:∀ g i,(e.who g).noTok ≠ .tok i:=fun g i => by cases e.who g <;> simp [Own.noTok]
   have key:∀ (lo:Nat) (τ2:TH),B.lo ≤ lo → (∀ e2 σ2 w,Aft0 ⟨σ,⟨e.b,e.n,fun g => (e.who g).noTok⟩,lo⟩ e2 τ2 σ2 → TR σ2 e2 [] r w → τ2.lock = τ.lock → (lk = true → e.n ≤ lo) → tk' = tk → τ' = τ2 → K w σ2):=by
    intro lo τ2 hlo e2 σ2 w ha2 hr2 hlk2 hlk3 et eτ
    obtain ⟨e3,q1,q2,q3,q4⟩:=hs.after hlo ha2 hlk2
    subst et eτ
    have hrw:TR σ2 e3 tk' r w:=hr2.step ⟨.refl _,by rw [q2]; exact Nat.le_refl _,fun id _ => by rw [q1],fun i hi => by simp at hi,fun i n t hi => by simp at hi⟩
    have hle:lk = true → ∀ g,g < σ.next → σ2.blk g = σ.blk g:=fun hlk g hg => q4 g hg fun id hid => ⟨fun hq => by have:=hs.wid g id (.inl hq); have:=hlk3 hlk; omega,fun j hq => by have:=hs.wid g id (.inr ⟨j,hq⟩); have:=hlk3 hlk; omega⟩
    refine hK e3 σ2 w q3 hrw ⟨ha2.fro,ha2.nx,by rw [q2]; exact ha2.n0,fun id hid => by rw [q1]; exact ha2.b0 id hid,fun id hid hw hn => ?_⟩ (fun hlk => ⟨ha2.nx,hle hlk⟩)
    have hlk:lk = true:=by simpa using hn
    have hlt:=hs.wlt (e.b id) (by rw [hw]; simp)
    rw [ah.at_lt hlt,ah.at_lt (Nat.lt_of_lt_of_le hlt ha2.nx)]
    exact hle hlk _ hlt
   cases lk with
   | true =>
    obtain ⟨⟨r2,τ2⟩,hc,he⟩:=Option.map_eq_some_iff.1 h
    simp only [Prod.mk.injEq] at he
    obtain ⟨rfl,rfl,rfl⟩:=he
    have c2:=hcf _ _ _ _ _ hc
    refine (c2 σ ⟨e.b,e.n,fun g => (e.who g).noTok⟩ ws (hs.hr.locked _) nt hl hargs).mono fun w σ2 ⟨e2,a1,a2⟩ => ?_
    have a1':Aft0 ⟨σ,⟨e.b,e.n,fun g => (e.who g).noTok⟩,τ.next⟩ e2 (τ2.locked τ.lock) σ2:=⟨a1.hr.locked _,a1.nx,a1.keep,a1.fro,a1.n0,a1.b0,a1.old,a1.notok⟩
    by_cases hbl:B.lo ≤ τ.next
    · exact key τ.next _ hbl e2 σ2 w a1' a2 rfl (fun _ => Nat.le_of_eq hs.n) rfl rfl
    · -- all that is there is locked by now
      have nof:∀ lo g,e.n ≤ lo → (Bs.free ⟨σ,⟨e.b,e.n,fun g => (e.who g).noTok⟩,lo⟩ g ↔ σ.next ≤ g):=fun lo g hlo => by
       constructor
       · rintro (h | ⟨id,h1,h2⟩)
         · exact h
         · have:=hs.hr.wid g id h2; simp only at this; simp only at h1; omega
       · exact .inl
      have hn:=hs.n
      have a2':Aft0 ⟨σ,⟨e.b,e.n,fun g => (e.who g).noTok⟩,B.lo⟩ e2 (τ2.locked τ.lock) σ2:=⟨a1'.hr,a1'.nx,fun g hg hf => a1'.keep g hg (fun hf2 => hf ((nof _ g (by omega)).2 ((nof _ g (by omega)).1 hf2))),a1'.fro,a1'.n0,a1'.b0,fun g hg hf => a1'.old g hg (fun hf2 => hf ((nof _ g (by omega)).2 ((nof _ g (by omega)).1 hf2))),a1'.notok⟩
      exact key B.lo _ (Nat.le_refl _) e2 σ2 w a2' a2 rfl (fun _ => by omega) rfl rfl
   | false =>
    obtain ⟨⟨r2,τ2⟩,hc,he⟩:=Option.map_eq_some_iff.1 h
    simp only [Prod.mk.injEq] at he
    obtain ⟨rfl,rfl,rfl⟩:=he
    have c2:=hcf _ _ _ _ _ hc
    refine (c2 σ ⟨e.b,e.n,fun g => (e.who g).noTok⟩ ws hs.hr nt hl hargs).mono fun w σ2 ⟨e2,a1,a2⟩ => ?_
    exact key τ.lock _ (by rw [hs.lo]; exact Nat.le_refl _) e2 σ2 w a1.toAft0 a2 a1.lock (fun h => by cases h) rfl rfl
 · cases h
end
end Go.Proofs.Ytgkkienmocpnbaa.Sh
namespace Go.Proofs.Ytgkkienmocpnbaa.Sh
open Go Go.RowKit
open Classical in
noncomputable def ah.frz (σ:ah) (S:Nat → Prop):ah:={ σ with blk:=fun g => if S g then (σ.blk g).ro else σ.blk g }
theorem zbik (σ:ah) (S:Nat → Prop) (g:Nat):(S g → (σ.frz S).at g = (σ.at g).ro) ∧ (¬ S g → (σ.frz S).at g = σ.at g):=by
 unfold ah.at ah.frz
 refine ⟨fun h => ?_,fun h => ?_⟩
 · simp only [if_pos h]; split <;> rfl
 · simp only [if_neg h]
theorem Rep.frz {B:Nat} {w0:World} {σ:ah} {m:Mp} {w:World} (h:Rep B w0 σ m w) (S:Nat → Prop):Rep B w0 (σ.frz S) m w where
 next:=h.next
 below:=h.below
 base:=h.base
 blk:=fun i hi => by
  have hb:=h.blk i hi
  simp only [ah.frz]
  split
  · cases hq:σ.blk i with
    | dead => trivial
    | map es => trivial
    | cells t cs md =>
     rw [hq] at hb
     obtain ⟨c,t',fz,h1,h2,h3⟩:=hb
     exact ⟨c,t',fz,h1,h2,fun e => (e rfl).elim⟩
  · exact hb
 apart:=fun i j hi hj hij hr hl => by
  simp only [ah.frz] at hr hl ⊢
  split at hr
  · cases hq:σ.blk i <;> rw [hq] at hr <;> simp [Blk.ro,Blk.own] at hr
  · rename_i hsi
    rw [if_neg hsi]
    split
    · rename_i hsj
      rw [if_pos hsj] at hl
      cases hq:σ.blk j with
      | dead => rw [hq] at hl; cases hl
      | map es => rw [hq] at hl; cases hl
      | cells t cs md =>
       have:=h.apart i j hi hj hij hr (by rw [hq]; rfl)
       rw [hq] at this
       refine this.imp id fun hs => ?_
       obtain ⟨t1,c1,t2,c2,e1,e2,e3⟩:=n8 hs
       rw [e1]
       simp only [Blk.cells.injEq] at e2
       obtain ⟨rfl,rfl,rfl⟩:=e2
       exact e3
    · rename_i hsj
      rw [if_neg hsj] at hl
      exact h.apart i j hi hj hij hr hl
theorem im.ghost {P:Program} {f:FuncId} {ws:List Value} {σ:ah} {Post:Value → ah → Prop} (h:im P f ws σ fun v σ' => ∃ S,Post v (σ'.frz S)):im P f ws σ Post :=
 ⟨h.1,fun B w0 m w cargs hr hs hv => (h.2 B w0 m w cargs hr hs hv).mono fun e w' ⟨v,c,m',σ',h1,h2,h3,h4,S,h5⟩ => ⟨v,c,m',σ'.frz S,h1,h2,h3,h4.frz S,h5⟩⟩
def zbg4:Value → Bool
 | .bool _ | .int _ _ | .string _ => true
 | _ => false
theorem za9m {m m':Mp} {v c:Value} (h:bm m v c) (hf:zbg4 v = true):bm m' v c:=by
 cases h <;> first | (cases hf; done) | (exact .bool _) | (exact .int _ _) | (exact .string _)
theorem im.borrow {P:Program} {f:FuncId} {ws:List Value} {σ:ah} {Q:Value → Prop} (h:im P f ws σ.ro fun v _ => zbg4 v = true ∧ Q v):im P f ws σ fun v σ' => σ' = σ ∧ Q v :=
 ⟨h.1,fun B w0 m w cargs hr hs hv => (h.2 w.heap.size w m w cargs hr.ro hs hv).mono fun e w' ⟨v,c,m',σ',h1,h2,h3,h4,h5,h6⟩ => ⟨v,c,m,σ,h1,.refl m,za9m h3 h5,hr.later h4.below,rfl,h6⟩⟩
section
variable {P:Program} {B:Bs} {e e':Env} {fr:TF} {tk tk':TK} {τ τ':TH} {fr':Fr} {σ σ':ah}
structure zbie (σ:ah) (e:Env) (n0:Nat) (σv:ah):Prop where
 keep:ye σ σv
 ro:∀ id t cs,n0 ≤ id → e.who (e.b id) = .obj id → σ.at (e.b id) = .cells t cs .rw → σv.at (e.b id) = .cells t cs .ro
theorem zbie.ofRo (σ:ah) (e:Env):zbie σ e 0 σ.ro where
 keep:=fun g t cs md h hm => ⟨.ro,by simp,by rw [ah.ro_at,h]; rfl⟩
 ro:=fun id t cs _ _ h => by rw [ah.ro_at,h]; rfl
theorem l3 (sz:Nat):∀ (n:Nat) (l:List TV),(zbbk sz n l).length = n
 | 0,_ => rfl
 | n + 1,l => by simp only [zbbk,List.length_cons,l3 sz n]
theorem zbwm (sz:Nat):∀ (n:Nat) (l:List TV) (i:Nat),i < n → (zbbk sz n l).getD i .undef = za9s ((l.drop (i * sz)).take sz)
 | 0,_,_,h => by cases h
 | n + 1,l,0,_ => by simp [zbbk]
 | n + 1,l,i + 1,h => by
  have:=zbwm sz n (l.drop sz) i (Nat.lt_of_succ_lt_succ h)
  simp only [zbbk,List.getD_cons_succ,this,List.drop_drop]
  congr 3
  rw [Nat.add_mul]; omega
theorem zbln {f:TV → Option TV}:∀ {l l':List TV},fi f l = some l' → l'.length = l.length ∧ ∀ i,i < l.length → f (l.getD i .undef) = some (l'.getD i .undef)
 | [],l',h => by injection h with h; subst h; exact ⟨rfl,fun i hi => by cases hi⟩
 | v :: r,l',h => by
  simp only [fi] at h
  split at h
  · rename_i x y hx hy
    injection h with h; subst h
    obtain ⟨h1,h2⟩:=zbln hy
    refine ⟨by simp [h1],fun i hi => ?_⟩
    cases i with
    | zero => exact hx
    | succ i => exact h2 i (Nat.lt_of_succ_lt_succ hi)
  · cases h
theorem zae2 (hs:St B e fr tk τ fr' σ) {n0:Nat} {σv:ah} (hv:zbie σ e n0 σv):∀ (k:Nat) (v u:TV) (w:Value),ej τ n0 k v = some u → TR σ e tk v w → u.pureS = true ∧ PR σv u w:=by
 have plain:∀ (v u:TV) (w:Value),(if v.canS.pureS then some v.canS else none) = some u → TR σ e tk v w → u.pureS = true ∧ PR σv u w:=fun v u w h ht => by
  split at h
  · rename_i hp
    injection h with h; subst h
    exact ⟨hp,(zbnh (zbht ht) hp).mono hv.keep⟩
  · cases h
 intro k
 induction k with
 | zero => exact fun v u w h ht => plain v u w (by simpa [ej] using h) ht
 | succ k ih =>
  intro v u w h ht
  cases v with
  | slm id off n sz =>
   simp only [ej] at h
   split at h
   · cases h
   · rename_i hc
     obtain ⟨l,hl,h⟩:=Option.bind_eq_some_iff.1 h
     obtain ⟨l',hl',rfl⟩:=Option.map_eq_some_iff.1 h
     obtain ⟨hid,rfl⟩:=zbcz ht
     refine ⟨rfl,?_⟩
     by_cases hn:n = 0
     · subst hn; exact .slE _ _
     have hsz:0 < sz:=Nat.pos_of_ne_zero fun h => hc (.inl h)
     have hpos:0 < n * sz:=Nat.mul_pos (Nat.pos_of_ne_zero hn) hsz
     obtain ⟨b,hb,hb2⟩:=Option.bind_eq_some_iff.1 hl
     split at hb2
     · rename_i hle
       injection hb2 with hb2
       obtain ⟨b',hb',ho⟩:=hs.ob id (by rw [← hs.n]; exact hid)
       rw [hb] at hb'; injection hb' with hb'; subst hb'
       obtain ⟨hw,cs,h1,h2,h3⟩:=ho.live (fun h0 => by rw [h0] at hle; simp at hle; omega)
       obtain ⟨g1,g2⟩:=zbln hl'
       have ll:l.length = n * sz:=by rw [← hb2]; simp; omega
       have key:∀ j,j < n * sz → (l'.getD j .undef).pureS = true ∧ PR σv (l'.getD j .undef) (cs.getD (off + j) undef):=fun j hj => by
        refine ih _ _ _ (g2 j (by omega)) ?_
        rw [← hb2,ly TV.rd _ _ .undef _ (by simp; omega),dc _ _ _ _ _ hj]
        exact zbhf (h3 (off + j) (by omega)).1
       have hat:=hv.ro id b.t cs (Nat.le_of_not_lt fun h => hc (.inr h)) hw h1
       have cl:∀ i,i < n → ((zbbk sz n l').getD i .undef).cells = (l'.drop (i * sz)).take sz:=fun i hi => by
        have hle2:(i + 1) * sz ≤ n * sz:=Nat.mul_le_mul_right _ hi
        rw [Nat.add_mul,Nat.one_mul] at hle2
        rw [zbwm sz n l' i hi]
        refine zbux (fun v hv => ?_) (fun h0 => ?_)
        · obtain ⟨j,hj,rfl⟩:=List.mem_iff_getElem.1 hv
          have hj':j < sz:=by simp at hj; omega
          have:=(key (i * sz + j) (by omega)).1
          rw [← dc l' (i * sz) sz j .undef hj',gj (List.getElem?_eq_getElem hj)] at this
          exact this
        · have:=congrArg List.length h0
          simp at this
          omega
       have:=PR.sl (σ:=σv) (zbbk sz n l') (e.b id) off sz b.t cs .ro (by intro h0; have:=congrArg List.length h0; rw [l3] at this; exact hn this) (by omega) hat (by simp) (by rw [l3]; omega)
        (fun i hi => by
         rw [l3] at hi
         have hle2:(i + 1) * sz ≤ n * sz:=Nat.mul_le_mul_right _ hi
         rw [Nat.add_mul,Nat.one_mul] at hle2
         rw [cl i hi]; simp; omega)
        (fun i hi j hj => by
         rw [l3] at hi
         have hle2:(i + 1) * sz ≤ n * sz:=Nat.mul_le_mul_right _ hi
         rw [Nat.add_mul,Nat.one_mul] at hle2
         rw [cl i hi,dc _ _ _ _ _ hj]
         have:=(key (i * sz + j) (by omega)).2
         rwa [← Nat.add_assoc] at this)
       rwa [l3] at this
     · cases hb2
  | _ => exact plain _ u w (by simpa [ej] using h) ht
theorem zbda (hs:St B e fr tk τ fr' σ) {n0:Nat} {σv:ah} (hv:zbie σ e n0 σv) {v u:TV} {w:Value} (h:tfz τ n0 v = some u) (ht:TR σ e tk v w) (e2:Env) (tk2:TK):TR σv e2 tk2 u w:=by
 unfold tfz at h
 split at h
 · rename_i cs
   obtain ⟨l,hl,rfl⟩:=Option.map_eq_some_iff.1 h
   obtain ⟨c,rfl,h1,h2⟩:=zbcy ht
   obtain ⟨g1,g2⟩:=zbln hl
   exact .agg _ _ (by rw [g1]; exact h1) fun i hi => .pr (zae2 hs hv 2 _ _ _ (g2 i (by omega)) (h2 i (by omega))).2
 · exact .pr (zae2 hs hv 2 _ _ _ h ht).2
theorem zbg3 {v:TV} {w:Value} (h:TR σ e tk v w) (hf:v.flat = true):zbg4 w = true ∧ ∀ (σ2:ah) (e2:Env) (tk2:TK),TR σ2 e2 tk2 v w:=by
 cases v with
 | bool b => rw [np h]; exact ⟨rfl,fun _ _ _ => .pr (.bool _)⟩
 | int k n => rw [jv h]; exact ⟨rfl,fun _ _ _ => .pr (.int _ _)⟩
 | str s => rw [up h]; exact ⟨rfl,fun _ _ _ => .pr (.str _)⟩
 | _ => cases hf
theorem zamt {cf:CF} (hcf:ei P cf) {f:FuncId} {args:List TV} {ws:List Value} {r:TV} (h:zbdw cf f args tk τ = some (r,tk',τ')) (hs:St B e fr tk τ fr' σ) (hl:args.length = ws.length)
 (ha:∀ i,i < args.length → TR σ e tk (args.getD i .undef) (ws.getD i undef)):tk' = tk ∧ τ' = τ ∧ im P f ws σ fun w σ' => σ' = σ ∧ TR σ e tk r w:=by
 unfold zbdw at h
 obtain ⟨as,has,h⟩:=Option.bind_eq_some_iff.1 h
 obtain ⟨⟨r2,τ2⟩,hc,h⟩:=Option.bind_eq_some_iff.1 h
 split at h
 · rename_i hf
   simp only [Option.some.injEq,Prod.mk.injEq] at h
   obtain ⟨rfl,rfl,rfl⟩:=h
   refine ⟨rfl,rfl,im.borrow ?_⟩
   obtain ⟨g1,g2⟩:=zbln has
   have:=hcf _ _ _ _ _ hc σ.ro ⟨fun _ => 0,0,fun _ => .none⟩ ws ⟨rfl,fun g hg => absurd rfl hg,fun g id hg => (by rcases hg with hg | ⟨_,hg⟩ <;> cases hg),fun id hid => absurd hid (Nat.not_lt_zero _)⟩ (fun g i hg => by cases hg) (by omega)
    (fun i hi => zbda hs (zbie.ofRo σ e) (g2 i (by omega)) (ha i (by omega)) _ _)
   refine this.mono fun w σ2 ⟨e2,_,ht⟩ => ?_
   obtain ⟨q1,q2⟩:=zbg3 ht hf
   exact ⟨q1,q2 _ _ _⟩
 · cases h
end
end Go.Proofs.Ytgkkienmocpnbaa.Sh
