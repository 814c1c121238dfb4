/- The tree level: each operation that is not a call is the shadow's. -/
import Derived.Test.YtdcfoaafkppojaaTv4e
set_option linter.unusedVariables false
set_option linter.unusedSimpArgs false
namespace Go.Proofs.Ytdcfoaafkppojaa.Sh
open Go Go.RowKit
section
variable {P : Program} {B : Bs} {e e' : Env} {fr : TF} {tk tk' : TK} {τ τ' : TH} {fr' : Fr} {σ σ' : ak}
theorem zaur {v : TV} {w : Value} (h : TR σ e tk v w) (hp : v.pureS = true) : PR σ v w := by
  cases h with
  | pr h => exact h
  | func f a b c d ha hb h1 h2 =>
    cases a with
    | nil =>
      cases b with
      | nil =>
        have e1 : c = #[] := Array.eq_empty_of_size_eq_zero ha.symm
        have e2 : d = #[] := Array.eq_empty_of_size_eq_zero hb.symm
        rw [e1,e2]; exact .func f
      | cons => cases hp
    | cons => cases hp
  | _ => cases hp
theorem tr_pure {v : TV} {w : Value} (h : TR σ e tk v w) (hp : v.pure = true) : v.cells.length = w.cells.size ∧ ∀ j,j < v.cells.length → PR σ (v.cells.getD j .undef) (w.cells.getD j undef) := by
  have hu : v ≠ .undef := by rintro rfl; cases hp
  obtain ⟨h1,h2⟩ := zakm h hu
  refine ⟨h1,fun j hj => zaur (h2 j hj) ?_⟩
  by_cases ha : ∃ cs,v = .agg cs
  · obtain ⟨cs,rfl⟩ := ha
    have := List.all_eq_true.1 hp _ (List.getElem_mem hj)
    show ((TV.agg cs).cells.getD j .undef).pureS = true
    rw [jo (List.getElem?_eq_getElem hj)]; exact this
  · have e : v.cells = [v] ∧ v.pureS = true := by
      unfold TV.pure at hp
      unfold TV.cells
      split at hp
      · exact absurd ⟨_,rfl⟩ ha
      · refine ⟨?_,hp⟩
        cases v <;> first | rfl | exact absurd ⟨_,rfl⟩ ha
    rw [e.1] at hj ⊢
    obtain rfl : j = 0 := by simpa using hj
    exact e.2
theorem zawv {sz : Nat} : ∀ (ps : List (Nat × Nat × TV)) (qs : List (Nat × Nat × Value)) (i : Nat) (cs : List Value) (l : List TV),ps.length = qs.length →
    (∀ (i : Nat) (p : Nat × Nat × TV) (q : Nat × Nat × Value),ps[i]? = some p → qs[i]? = some q → p.1 = q.1 ∧ p.2.1 = q.2.1 ∧ TR σ e tk p.2.2 q.2.2) → zaid sz i ps = some l → (i + ps.length) * sz ≤ cs.length →
    ∃ cs',zaac cs qs = some cs' ∧ cs'.length = cs.length ∧ (∀ k,k < i * sz → cs'.getD k undef = cs.getD k undef) ∧ l.length = ps.length ∧ ∀ a,a < l.length → (l.getD a .undef).cells.length = sz ∧ ∀ j,j < sz → PR σ ((l.getD a .undef).cells.getD j .undef) (cs'.getD ((i + a) * sz + j) undef)
  | [],[],i,cs,l,_,_,h,_ => by injection h with h; subst h; exact ⟨cs,rfl,rfl,fun _ _ => rfl,rfl,fun a ha => by simp at ha⟩
  | [],_ :: _,_,_,_,hl,_,_,_ => by cases hl
  | _ :: _,[],_,_,_,hl,_,_,_ => by cases hl
  | (off,n,v) :: r,(off',n',w) :: qs,i,cs,l,hl,hr,h,hle => by
    obtain ⟨h1,h2,h3⟩ := hr 0 _ _ rfl rfl
    simp only at h1 h2 h3
    subst h1 h2
    simp only [zaid] at h
    split at h
    · rename_i hc
      obtain ⟨rfl,rfl,hc1,hc2⟩ := hc
      obtain ⟨l',hl',rfl⟩ := Option.map_eq_some_iff.1 h
      obtain ⟨p1,p2⟩ := tr_pure (za2i h3) hc2
      rw [hc1] at p1 p2
      simp only [List.length_cons] at hle
      have hle2 : i * n + n ≤ cs.length := by
        have : (i + 1) * n ≤ (i + (r.length + 1)) * n := Nat.mul_le_mul_right _ (by omega)
        rw [Nat.add_mul i 1,Nat.one_mul] at this
        omega
      obtain ⟨cs',q1,q2,q3,q4,q5⟩ := zawv r qs (i + 1) (jh cs (i * n) w.cells.toList) l' (by simpa using hl) (fun i p q hp hq => hr (i + 1) p q (by simpa using hp) (by simpa using hq)) hl'
        (by rw [gu]; have e : i + 1 + r.length = i + (r.length + 1) := (by omega); rw [e]; exact hle)
      rw [gu] at q2
      refine ⟨cs',?_,q2,fun k hk => ?_,by simp [q4],fun a ha => ?_⟩
      · simp only [zaac]
        rw [if_pos ⟨p1.symm,hle2⟩]; exact q1
      · rw [q3 k (by rw [Nat.add_mul]; omega),rj,if_neg (by omega)]
      · cases a with
        | zero =>
          simp only [List.getD_cons_zero,Nat.add_zero]
          refine ⟨hc1,fun j hj => ?_⟩
          rw [q3 _ (by rw [Nat.add_mul,Nat.one_mul]; omega),rj,if_pos ⟨by omega,by simp; omega,by omega⟩,Nat.add_sub_cancel_left,cw]
          exact p2 j hj
        | succ a =>
          simp only [List.getD_cons_succ]
          obtain ⟨g1,g2⟩ := q5 a (by simpa using ha)
          refine ⟨g1,fun j hj => ?_⟩
          have := g2 j hj
          rwa [show i + 1 + a = i + (a + 1) by omega] at this
    · cases h
theorem zatv {l : List TV} (h : ∀ v ∈ l,v.pureS = true) (hne : l ≠ []) : (za57 l).cells = l := by
  unfold za57
  split
  · rename_i v
    have := h v (by simp)
    cases v <;> first | rfl | cases this
  · rfl
theorem canS_put {v : TV} (h : v.canS.pureS = true) (n : Nat) : v.one = true ∧ v.put.under n = true := by
  cases v with
  | func f a b =>
    cases a with
    | nil => cases b with
      | nil => exact ⟨rfl,by simp [TV.put,TV.under,fw]⟩
      | cons => cases h
    | cons => cases h
  | _ => first | exact ⟨rfl,rfl⟩ | cases h
theorem zanv {α : Type} (d : α) (z : List α) : ∀ (n j : Nat),j < n * z.length → ((List.replicate n z).flatten).getD j d = z.getD (j % z.length) d
  | 0,j,h => by simp at h
  | n + 1,j,h => by
    rw [List.replicate_succ,List.flatten_cons]
    by_cases hj : j < z.length
    · simp only [List.getD_eq_getElem?_getD,List.getElem?_append_left hj,Nat.mod_eq_of_lt hj]
    · have e : j % z.length = (j - z.length) % z.length := (Nat.mod_eq_sub_mod (by omega))
      simp only [List.getD_eq_getElem?_getD,List.getElem?_append_right (show z.length ≤ j by omega)]
      have := zanv d z n (j - z.length) (by rw [Nat.add_mul,Nat.one_mul] at h; omega)
      simp only [List.getD_eq_getElem?_getD] at this
      rw [this,e]
theorem zas4 (s : ByteArray) : Rows σ (ej s) 1 (ev s) := by
  refine ⟨by simp [ej,ev],fun i hi => ?_,fun i hi j hj => ?_⟩
  all_goals
    have hi' : i < s.data.toList.length := by simpa [ej] using hi
    have e1 : (ej s).getD i .undef = .int .u8 (s.data.toList[i]).toNat := by
      simp only [ej,List.getD_eq_getElem?_getD,List.getElem?_map,List.getElem?_eq_getElem hi',Option.map_some,Option.getD_some]
    rw [e1]
  · rfl
  · obtain rfl : j = 0 := by omega
    have e2 : (ev s).getD (i * 1 + 0) undef = .int .u8 (s.data.toList[i]).toNat := by
      simp only [ev,Nat.mul_one,Nat.add_zero,List.getD_eq_getElem?_getD,List.getElem?_map,List.getElem?_eq_getElem hi',Option.map_some,Option.getD_some]
    rw [e2]; exact .int _ _
def vb (o : Option (Option Nat)) (id : Nat) : Prop := match o with | none => False | some none => True | some (some k) => id = k
theorem tOp_ok {i : I} {m : Nat} {v : TV} {d : Option Nat} {g : Option (Nat × Bool)} (h : tOp i m fr tk τ = some (v,tk',τ')) (hs : St B e fr tk τ fr' σ) (K : Value → ak → Prop)
    (hK : ∀ e' σ' w,St B e' fr tk' τ' fr' σ' → TR σ' e' tk' v w → Chg (vb (me ⟨⟨d,i,g⟩,m⟩ fr)) e σ e' σ' → K w σ') : evI P i K fr' σ := by
  have plain : (tP i fr τ).map (fun v => (v,tk,τ)) = some (v,tk',τ') → evI P i K fr' σ := fun h => by
    obtain ⟨v',hv,he⟩ := Option.map_eq_some_iff.1 h
    simp only [Prod.mk.injEq] at he
    obtain ⟨rfl,rfl,rfl⟩ := he
    exact tP_ok hv hs K fun w hw => hK e σ w hs hw (.refl _ _ _)
  have mono : ∀ {e' : Env} {σ' : ak},Chg (fun _ => False) e σ e' σ' → Chg (vb (me ⟨⟨d,i,g⟩,m⟩ fr)) e σ e' σ' := fun hc => ⟨hc.keep,hc.nx,hc.n,hc.b,fun id hid q _ => hc.ob id hid q (fun h => h)⟩
  cases i with
  | mov x =>
    simp only [tOp] at h
    split at h
    · have hx := hs.op x
      split at h
      · rename_i hz
        simp only [Option.some.injEq,Prod.mk.injEq] at h
        obtain ⟨rfl,rfl,rfl⟩ := h
        rw [hz] at hx
        simp only [evI,zasx hx]
        refine hK e σ _ (hs.newTok _) (.sla _ _ _ .slN (by simp) fun n t' hn => ?_) (.refl _ _ _)
        simp only [List.getElem?_concat_length,Option.some.injEq,Prod.mk.injEq] at hn
        obtain ⟨rfl,rfl⟩ := hn
        exact ⟨Nat.le_refl _,fun _ => .inl ⟨rfl,rfl⟩⟩
      · cases h
    split at h
    · simp only [Option.some.injEq,Prod.mk.injEq] at h
      obtain ⟨rfl,rfl,rfl⟩ := h
      exact hK e σ _ hs (za2h (hs.op x)) (.refl _ _ _)
    · exact plain (by simpa [tP] using h)
  | load1 x =>
    simp only [tOp] at h
    split at h
    · rename_i hm
      have hx := hs.op x
      split at h
      · rename_i id off hz
        rw [hz] at hx
        obtain ⟨hid,e1⟩ := u9 hx
        obtain ⟨b,hb,h⟩ := Option.bind_eq_some_iff.1 h
        split at h
        · rename_i t l hc
          split at h
          · rename_i hlo
            simp only [Option.some.injEq,Prod.mk.injEq] at h
            obtain ⟨rfl,rfl,rfl⟩ := h
            obtain ⟨w,e2,h1,h2,h3,h4⟩ := hs.take hb (by rw [← hs.n]; exact hid) hc (by rw [← hs.lo]; exact hlo)
            simp only [evI,e1,zab4,h1,ma]
            refine hK e2 σ w h2 h3 ⟨h4.keep,h4.nx,h4.n,h4.b,fun k hk q hn => h4.ob k hk q fun hkk => hn ?_⟩
            simp only [me,hz,if_pos hm,vb]
            exact hkk
          · cases h
        · rename_i hc
          simp only [Option.some.injEq,Prod.mk.injEq] at h
          obtain ⟨rfl,rfl,rfl⟩ := h
          have hcell : zapi τ id off = some .slz := by unfold zapi; rw [hb]; simp only [Option.bind_some,hc,Option.map_some]; rfl
          obtain ⟨w,g1,g2⟩ := za1n hs hid hcell
          have := zasx g2
          subst this
          simp only [evI,e1,zab4,g1,ma]
          refine hK e σ _ (hs.newTok _) (.sla _ _ _ .slN (by simp) fun n t' hn => ?_) (.refl _ _ _)
          simp only [List.getElem?_concat_length,Option.some.injEq,Prod.mk.injEq] at hn
          obtain ⟨rfl,rfl⟩ := hn
          exact ⟨Nat.le_refl _,fun _ => .inl ⟨rfl,rfl⟩⟩
        · cases h
      · cases h
    · exact plain h
  | box t n x =>
    simp only [tOp] at h
    split at h
    · rename_i hc
      simp only [Option.some.injEq,Prod.mk.injEq] at h
      obtain ⟨rfl,rfl,rfl⟩ := h
      have hx := hs.op x
      obtain ⟨c1,c2⟩ := zakm hx (zavu hc.1)
      have hall : ∀ j,j < (tO fr x).cells.length → ((tO fr x).cells.getD j .undef).one = true := fun j hj => by
        rw [jo (List.getElem?_eq_getElem hj)]; exact List.all_eq_true.1 hc.1 _ (List.getElem_mem hj)
      obtain ⟨g1,g2⟩ := hs.pushOb (t := t) (cs := (tO fr x).cells.map TV.put) (ws := (evO fr' x).cells.toList) (by simpa using c1.symm) (fun j hj => by
        have hj' : j < (tO fr x).cells.length := by rw [c1]; simpa using hj
        rw [nk TV.put _ _ .undef _ hj',cw]
        have hu := qm hc.2 j (by simpa using hj')
        rw [nk TV.put _ _ .undef _ hj'] at hu
        have hn := hs.n
        exact cr_put (e := e) (zg.push _ _) (fun i hi => by have : i ≠ e.n := (by omega); simp [Env.new,this]) (by simp only [Env.new]; omega) (Nat.le_succ _) (c2 j hj') (hall j hj') hu)
      simp only [evI]
      refine ⟨fun j hj => ?_,?_⟩
      · have hj' : j < (tO fr x).cells.length := by rw [c1]; exact hj
        exact zatf (c2 j hj') (hall j hj')
      · refine hK _ _ _ g1 ?_ (mono g2)
        have := TR.ptr (σ := σ.push (.cells t (evO fr' x).cells.toList .rw)) (e := e.new σ.next) (tk := tk) τ.next 0 (by simp only [Env.new]; have := hs.n; omega)
        have eb : (e.new σ.next).b τ.next = σ.next := by simp [Env.new,hs.n]
        rwa [eb] at this
    · cases h
  | store n a x =>
    have hx := hs.op x
    have ha := hs.op a
    simp only [tOp] at h
    split at h
    · split at h
      · rename_i id off tok l h1 h2
        rw [h1] at ha
        rw [h2] at hx
        obtain ⟨hid,e1⟩ := u9 ha
        split at h
        · rename_i k t htk
          split at h
          · rename_i hc
            obtain ⟨rfl,rfl⟩ := hc
            obtain ⟨τ2,ht,he⟩ := Option.map_eq_some_iff.1 h
            simp only [Prod.mk.injEq] at he
            obtain ⟨rfl,rfl,rfl⟩ := he
            obtain ⟨b,hb,ht⟩ := Option.bind_eq_some_iff.1 ht
            split at ht
            · rename_i hq
              obtain ⟨q1,q2,q3,q4,q5⟩ := hq
              injection ht with ht
              subst ht
              obtain ⟨hp,hlt,_,hlk⟩ := sla_nil hx htk
              have hlk := hlk rfl
              have cells1 : (evO fr' x).cells = #[evO fr' x] := (zah4 hp).2
              have hid' : id < τ.next := by rw [← hs.n]; exact hid
              simp only [List.length_cons,List.length_nil] at q3
              have wn : ∀ g,(match e.who g with | .tok i => if i = tok then Own.cell id off else .tok i | .cell i j => if i = id ∧ j = off then .none else .cell i j | o => o) ≠ .none → e.who g ≠ .none := fun g hg hw => by
                simp only [hw] at hg; exact hg rfl
              have wm : ∀ g,(match e.who g with | .tok i => if i = tok then Own.cell id off else .tok i | .cell i j => if i = id ∧ j = off then .none else .cell i j | o => o).mine B.lo → (e.who g).mine B.lo := fun g hg => by
                cases hw : e.who g with
                | tok i => trivial
                | cell i j =>
                  simp only [hw] at hg
                  split at hg
                  · exact hg.elim
                  · exact hg
                | none => simp only [hw] at hg; exact hg
                | obj i => simp only [hw] at hg; exact hg
              have wk : ∀ g,¬ (e.who g).mine B.lo → (match e.who g with | .tok i => if i = tok then Own.cell id off else .tok i | .cell i j => if i = id ∧ j = off then .none else .cell i j | o => o) = e.who g := fun g hg => by
                cases hw : e.who g with
                | tok i => rw [hw] at hg; exact absurd trivial hg
                | cell i j =>
                  rw [hw] at hg
                  simp only
                  rw [if_neg]
                  rintro ⟨rfl,_⟩
                  exact hg (by rw [← hs.lo]; exact q1)
                | _ => rfl
              have wi : ∀ g i,((match e.who g with | .tok i => if i = tok then Own.cell id off else .tok i | .cell i j => if i = id ∧ j = off then .none else .cell i j | o => o) = .obj i ∨ ∃ j,(match e.who g with | .tok i => if i = tok then Own.cell id off else .tok i | .cell i j => if i = id ∧ j = off then .none else .cell i j | o => o) = .cell i j) → i < e.n := fun g i hg => by
                cases hw : e.who g with
                | tok i' =>
                  simp only [hw] at hg
                  split at hg
                  · rcases hg with hg | ⟨j,hg⟩
                    · cases hg
                    · injection hg with hg; rw [← hg]; exact hid
                  · rcases hg with hg | ⟨j,hg⟩ <;> cases hg
                | cell i' j' =>
                  simp only [hw] at hg
                  split at hg
                  · rcases hg with hg | ⟨j,hg⟩ <;> cases hg
                  · exact hs.wid g i (by rw [hw]; exact hg)
                | none => simp only [hw] at hg; rcases hg with hg | ⟨j,hg⟩ <;> cases hg
                | obj i' => simp only [hw] at hg; exact hs.wid g i (by rw [hw]; exact hg)
              obtain ⟨σ2,g1,g2,g3⟩ := hs.storeOb (tk' := tk.set tok none) (who := fun g => match e.who g with | .tok i => if i = tok then .cell id off else .tok i | .cell i j => if i = id ∧ j = off then .none else .cell i j | o => o)
                (vs := [.slo t l]) (ws := [evO fr' x]) hb hid' (by simp) rfl (by simpa using q3) (fun g i hg => by simp only [hg]) (fun g i j hg hn => by
                  simp only [hg]; rw [if_neg]; simp only [List.length_cons,List.length_nil] at hn; omega) wn wm wk wi (by rw [← hs.lo]; exact q1) (fun i hi => by simpa using hi) (fun i n' t' hi hn => by
                  by_cases hit : i = tok
                  · subst hit; simp [hlt] at hn
                  · rw [List.getElem?_set_ne (Ne.symm hit)] at hn
                    exact ⟨n',t',hn,.inl ⟨rfl,.inl rfl,fun g hg => by simp only [hg,if_neg hit]⟩⟩) (fun σ' hk hoat j hj => by
                  obtain rfl : j = 0 := by simpa using hj
                  simp only [List.getD_cons_zero,Nat.add_zero]
                  refine ⟨hp.mono hk,?_⟩
                  rcases hlk with hlk | ⟨w1,g,s,cs,w2,w3,w4,w5⟩
                  · exact .inl hlk
                  · refine .inr ⟨w1,g,s,cs,w2,by simp only [w3,if_true],?_,w5⟩
                    rw [hoat g ?_]; exact w4
                    intro hgb
                    obtain ⟨b',hb',ho⟩ := hs.ob id hid'
                    rw [hb] at hb'; injection hb' with hb'; subst hb'
                    obtain ⟨hwho,_⟩ := ho.live (fun h0 => by rw [h0] at q3; simp at q3)
                    rw [hgb,hwho] at w3; cases w3)
              simp only [evI,e1,zab4,cells1]
              refine ⟨rfl,?_⟩
              have e2 : (#[evO fr' x] : Array Value).toList = [evO fr' x] := rfl
              rw [g1]
              refine hK _ _ _ g2 (.tup [] #[] rfl fun i hi => by simp at hi) ⟨g3.keep,g3.nx,g3.n,g3.b,fun k hk q hn => g3.ob k hk q fun hkk => hn ?_⟩
              simp only [me,h1,vb]
              exact hkk
            · cases ht
          · cases h
        · cases h
      · cases h
    · split at h
      · rename_i id off h1
        rw [h1] at ha
        obtain ⟨hid,e1⟩ := u9 ha
        split at h
        · rename_i hn
          obtain ⟨τ2,ht,he⟩ := Option.map_eq_some_iff.1 h
          simp only [Prod.mk.injEq] at he
          obtain ⟨rfl,rfl,rfl⟩ := he
          obtain ⟨b,hb,ht⟩ := Option.bind_eq_some_iff.1 ht
          split at ht
          · rename_i hq
            obtain ⟨q1,q2,q3,q4,q5⟩ := hq
            injection ht with ht
            subst ht
            have hid' : id < τ.next := by rw [← hs.n]; exact hid
            have hnu : tO fr x ≠ .undef := by
              intro hu
              rw [hu] at q4
              simp [TV.cells,TV.put,TV.one] at q4
            obtain ⟨c1,c2⟩ := zakm hx hnu
            have hone : ∀ j,j < (tO fr x).cells.length → ((tO fr x).cells.getD j .undef).one = true := fun j hj => by
              have := List.all_eq_true.1 q4 _ (List.getElem_mem (show j < ((tO fr x).cells.map TV.put).length by simpa using hj))
              rw [List.getElem_map] at this
              rw [jo (List.getElem?_eq_getElem hj)]
              generalize (tO fr x).cells[j] = u at this
              cases u <;> first | rfl | exact this
            have wn : ∀ g,(match e.who g with | .cell i j => if i = id ∧ off ≤ j ∧ j < off + (tO fr x).cells.length then Own.none else .cell i j | o => o) ≠ .none → e.who g ≠ .none := fun g hg hw => by
              simp only [hw] at hg; exact hg rfl
            have wm : ∀ g,(match e.who g with | .cell i j => if i = id ∧ off ≤ j ∧ j < off + (tO fr x).cells.length then Own.none else .cell i j | o => o).mine B.lo → (e.who g).mine B.lo := fun g hg => by
              cases hw : e.who g with
              | cell i j =>
                simp only [hw] at hg
                split at hg
                · exact hg.elim
                · exact hg
              | none => simp only [hw] at hg; exact hg
              | obj i => simp only [hw] at hg; exact hg
              | tok i => trivial
            have wk : ∀ g,¬ (e.who g).mine B.lo → (match e.who g with | .cell i j => if i = id ∧ off ≤ j ∧ j < off + (tO fr x).cells.length then Own.none else .cell i j | o => o) = e.who g := fun g hg => by
              cases hw : e.who g with
              | cell i j =>
                rw [hw] at hg
                simp only
                rw [if_neg]
                rintro ⟨rfl,_⟩
                exact hg (by rw [← hs.lo]; exact q1)
              | _ => rfl
            have wi : ∀ g i,((match e.who g with | .cell i j => if i = id ∧ off ≤ j ∧ j < off + (tO fr x).cells.length then Own.none else .cell i j | o => o) = .obj i ∨ ∃ j,(match e.who g with | .cell i j => if i = id ∧ off ≤ j ∧ j < off + (tO fr x).cells.length then Own.none else .cell i j | o => o) = .cell i j) → i < e.n := fun g i hg => by
              cases hw : e.who g with
              | cell i' j' =>
                simp only [hw] at hg
                split at hg
                · rcases hg with hg | ⟨j,hg⟩ <;> cases hg
                · exact hs.wid g i (by rw [hw]; exact hg)
              | none => simp only [hw] at hg; rcases hg with hg | ⟨j,hg⟩ <;> cases hg
              | tok i' => simp only [hw] at hg; rcases hg with hg | ⟨j,hg⟩ <;> cases hg
              | obj i' => simp only [hw] at hg; exact hs.wid g i (by rw [hw]; exact hg)
            obtain ⟨σ2,g1,g2,g3⟩ := hs.storeOb (tk' := tk) (who := fun g => match e.who g with | .cell i j => if i = id ∧ off ≤ j ∧ j < off + (tO fr x).cells.length then .none else .cell i j | o => o)
              (vs := (tO fr x).cells.map TV.put) (ws := (evO fr' x).cells.toList) hb hid' (fun h0 => q2 (by
                have : (tO fr x).cells.length = 0 := by rw [c1]; simpa using congrArg List.length h0
                rw [List.eq_nil_of_length_eq_zero this]; rfl)) (by simpa using c1) (by simpa using q3) (fun g i hg => by simp only [hg]) (fun g i j hg hn => by
                simp only [hg]; rw [if_neg]; simp only [List.length_map] at hn; omega) wn wm wk wi (by rw [← hs.lo]; exact q1) (fun i hi => hi) (fun i n' t' hi hn => ⟨n',t',hn,.inl ⟨rfl,.inl rfl,fun g hg => by simp only [hg]⟩⟩)
              (fun σ' hk hoat j hj => by
                have hj' : j < (tO fr x).cells.length := by simpa using hj
                rw [nk TV.put _ _ .undef _ hj',cw]
                have hu := qm q5 j (by simpa using hj')
                rw [nk TV.put _ _ .undef _ hj'] at hu
                exact cr_put (e := e) hk (fun _ _ => rfl) (by have := hs.n; simp only; omega) (Nat.le_refl _) (c2 j hj') (hone j hj') hu)
            simp only [evI,e1,zab4]
            refine ⟨by rw [← c1]; exact hn,?_⟩
            rw [g1]
            refine hK _ _ _ g2 (.tup [] #[] rfl fun i hi => by simp at hi) ⟨g3.keep,g3.nx,g3.n,g3.b,fun k hk q hn => g3.ob k hk q fun hkk => hn ?_⟩
            simp only [me,h1,vb]
            exact hkk
          · cases ht
        · cases h
      · cases h
  | buildSl t sz len zeros parts =>
    simp only [tOp] at h
    split at h
    · rename_i hc
      obtain ⟨hc1,hc2,hc3⟩ := hc
      obtain ⟨l,hl,he⟩ := Option.map_eq_some_iff.1 h
      simp only [Prod.mk.injEq] at he
      obtain ⟨rfl,rfl,rfl⟩ := he
      obtain ⟨cs,q1,q2,q3,q4,q5⟩ := zawv (σ := σ) (e := e) (tk := tk) _ (parts.map fun p => (p.1,p.2.1,evO fr' p.2.2)) 0 zeros l (by simp) (fun i p q hp hq => by
        simp only [List.getElem?_map,Option.map_eq_some_iff] at hp hq
        obtain ⟨a,ha,rfl⟩ := hp
        obtain ⟨b,hb,rfl⟩ := hq
        rw [ha] at hb; injection hb with hb; subst hb
        exact ⟨rfl,rfl,hs.op _⟩) hl (by simp [hc1,hc3])
      have hll : l.length = len := by rw [q4]; simpa using hc1
      have hrow : Rows σ l sz cs := ⟨by rw [q2,hc3,hll],fun i hi => (q5 i hi).1,fun i hi j hj => by have := (q5 i hi).2 j hj; rwa [Nat.zero_add] at this⟩
      simp only [evI,q1,ma]
      refine ⟨List.all_eq_true.2 hrow.scalar,.ro,?_⟩
      obtain ⟨g1,g2⟩ := hs.pushRo (.cells t cs .ro)
      refine hK _ _ _ g1 (.pr ?_) (mono g2)
      by_cases hne : l = []
      · subst hne
        have : len = 0 := by simpa using hll.symm
        subst this
        exact .slE _ _
      · have := (hrow.mono (zg.push σ (.cells t cs .ro))).pr hne hc2 (σ.at_push_new _) (by simp)
        rwa [hll] at this
    · cases h
  | makeSl t bytes zero l c =>
    simp only [tOp] at h
    split at h
    · rename_i k1 n k2 k h1 h2
      have hl := hs.op l
      have hc := hs.op c
      rw [h1] at hl
      rw [h2] at hc
      split at h
      · rename_i hq
        obtain ⟨b1,b2,b3,b4,b5,b6⟩ := hq
        have hz : ∀ z ∈ zero,(ofS z).canS.pureS = true := fun z hz => List.all_eq_true.1 b6 z hz
        have zpos : 0 < zero.length := by omega
        have rl : (zah7 n.toNat zero).length = n.toNat * zero.length := pk _ _
        simp only [evI,mc hl,mc hc,zk]
        refine ⟨⟨b1,b2,b3,b4⟩,?_⟩
        split at h
        · simp only [Option.some.injEq,Prod.mk.injEq] at h
          obtain ⟨rfl,rfl,rfl⟩ := h
          have el : (zero.map fun z => (ofS z).put).length = zero.length := by simp
          have fl : ((List.replicate n.toNat (zero.map fun z => (ofS z).put)).flatten).length = n.toNat * zero.length := by simp
          obtain ⟨g1,g2⟩ := hs.pushOb (t := t) (cs := (List.replicate n.toNat (zero.map fun z => (ofS z).put)).flatten) (ws := zah7 n.toNat zero) (by rw [rl,fl]) (fun j hj => by
            rw [rl] at hj
            rw [zanv _ _ _ _ (by rw [el]; exact hj),ye _ _ _ hj,el]
            have hm : j % zero.length < zero.length := Nat.mod_lt _ zpos
            rw [nk _ _ _ undef _ hm]
            have hp := hz (zero.getD (j % zero.length) undef) (by rw [jo (List.getElem?_eq_getElem hm)]; exact List.getElem_mem hm)
            obtain ⟨p1,p2⟩ := canS_put hp 0
            exact cr_put (e := e) (tk := tk) (zg.push _ _) (fun i hi => absurd hi (Nat.not_lt_zero _)) (Nat.zero_le _) (Nat.zero_le _) (zawm _) p1 p2)
          refine ⟨.rw,hK _ _ _ g1 ?_ (mono g2)⟩
          have := TR.slm (σ := σ.push (.cells t (zah7 n.toNat zero) .rw)) (e := e.new σ.next) (tk := tk) τ.next 0 n.toNat zero.length (by simp only [Env.new]; have := hs.n; omega)
          have eb : (e.new σ.next).b τ.next = σ.next := by simp [Env.new,hs.n]
          rwa [eb] at this
        split at h
        · split at h
          rotate_left
          · cases h
          rename_i hn0
          obtain ⟨hn0,hz1⟩ := hn0
          simp only [Option.some.injEq,Prod.mk.injEq] at h
          obtain ⟨rfl,rfl,rfl⟩ := h
          have e0 : zah7 n.toNat zero = [] := List.eq_nil_of_length_eq_zero (by rw [rl,hn0]; simp)
          refine ⟨.app,?_⟩
          rw [e0]
          have hk := zg.push σ (.cells t [] .app)
          have hlt : ∀ g,e.who g ≠ .none → (σ.push (.cells t [] .app)).at g = σ.at g := fun g hg => mq (hs.wlt g hg)
          have hw' : ∀ g,e.who g ≠ .none → (if g = σ.next then Own.tok tk.length else e.who g) = e.who g := fun g hg => by
            have : g ≠ σ.next := by have := hs.wlt g hg; omega
            rw [if_neg this]
          refine hK ⟨e.b,e.n,fun g => if g = σ.next then .tok tk.length else e.who g⟩ _ _ ?_ ?_ (mono ⟨hk,Nat.le_succ _,Nat.le_refl _,fun _ _ => rfl,fun id hid q _ => hlt _ (by rw [q]; simp)⟩)
          · refine hs.step ⟨hk,Nat.le_refl _,fun _ _ => rfl,fun i hi => by simp; omega,fun i n t' hi hn => ?_⟩ (Nat.le_succ _) (fun g hg _ => tg hg) hs.n rfl (fun g hg => ?_) (fun g hg => ?_) (fun g id hg => ?_) (fun g hg _ => by simp only; rw [if_neg (Nat.ne_of_lt hg)]) (fun id hid => ?_)
            · rw [List.getElem?_append_left hi] at hn
              exact ⟨n,t',hn,.inl ⟨rfl,.inl rfl,fun g hg => ⟨by simp only; rw [hw' g (by rw [hg]; simp)]; exact hg,hlt g (by rw [hg]; simp)⟩⟩⟩
            · by_cases hgn : g = σ.next
              · rw [hgn]; exact .inl hs.nx
              · simp only [if_neg hgn] at hg; exact hs.mine g hg
            · by_cases hgn : g = σ.next
              · rw [hgn]; exact Nat.lt_succ_self _
              · simp only [if_neg hgn] at hg; exact Nat.lt_succ_of_lt (hs.wlt g hg)
            · by_cases hgn : g = σ.next
              · simp only [if_pos hgn] at hg; rcases hg with hg | ⟨_,hg⟩ <;> cases hg
              · simp only [if_neg hgn] at hg; exact hs.wid g id hg
            · obtain ⟨b,h1,h2⟩ := hs.ob id hid
              exact ⟨b,h1,zaru.step (e := e) hk (fun _ _ => rfl) (by have := hs.n; simp only; omega) (fun q => hlt _ (by rw [q]; simp)) (fun q => by simp only; rw [hw' _ (by rw [q]; simp)]; exact q) (fun g j hg => ⟨by simp only; rw [hw' g (by rw [hg]; simp)]; exact hg,hlt g (by rw [hg]; simp)⟩) h2⟩
          · rw [hn0,hz1]
            exact .slb _ _ _ (by simp) fun n t' hn hn0 => ⟨by simp,σ.at_push_new _⟩
        · simp only [Option.some.injEq,Prod.mk.injEq] at h
          obtain ⟨rfl,rfl,rfl⟩ := h
          have ec : (za57 (zero.map fun z => (ofS z).canS)).cells = zero.map fun z => (ofS z).canS := zatv (fun v hv => by
            obtain ⟨z,hz',rfl⟩ := List.mem_map.1 hv
            exact hz z hz') (by intro h0; rw [List.map_eq_nil_iff] at h0; rw [h0] at zpos; exact absurd zpos (Nat.lt_irrefl _))
          have gd : ∀ i,i < n.toNat → (List.replicate n.toNat (za57 (zero.map fun z => (ofS z).canS))).getD i .undef = za57 (zero.map fun z => (ofS z).canS) := fun i hi => by
            simp [List.getD_eq_getElem?_getD,hi]
          have hrow : Rows σ (List.replicate n.toNat (za57 (zero.map fun z => (ofS z).canS))) zero.length (zah7 n.toNat zero) := ⟨by rw [rl]; simp,fun i hi => by
            rw [gd i (by simpa using hi),ec]; simp,fun i hi j hj => by
            have hi' : i < n.toNat := by simpa using hi
            rw [gd i hi',ec,nk _ _ _ undef _ hj]
            have hle : (i + 1) * zero.length ≤ n.toNat * zero.length := Nat.mul_le_mul_right _ hi'
            rw [Nat.add_mul,Nat.one_mul] at hle
            rw [ye _ _ _ (by omega),Nat.add_comm,Nat.add_mul_mod_self_right,Nat.mod_eq_of_lt hj]
            exact zaur (zazm (zawm (e := e) (tk := tk) _)) (hz _ (by rw [jo (List.getElem?_eq_getElem hj)]; exact List.getElem_mem hj))⟩
          obtain ⟨g1,g2⟩ := hs.pushRo (.cells t (zah7 n.toNat zero) .ro)
          refine ⟨.ro,hK _ _ _ g1 (.pr ?_) (mono g2)⟩
          by_cases hn0 : n.toNat = 0
          · rw [hn0]; exact .slE _ _
          · have := (hrow.mono (zg.push σ (.cells t (zah7 n.toNat zero) .ro))).pr (by simp [hn0]) (by omega) (σ.at_push_new _) (by simp)
            simpa using this
      · cases h
    · cases h
  | append t sz bytes s x =>
    simp only [tOp] at h
    split at h
    · cases h
    · rename_i hsz
      obtain ⟨xs,hxs,h⟩ := Option.bind_eq_some_iff.1 h
      have hp := pi hxs (hs.op x)
      split at h
      · rename_i hm
        obtain ⟨⟨v2,τ2⟩,ht,he⟩ := Option.map_eq_some_iff.1 h
        simp only [Prod.mk.injEq] at he
        obtain ⟨rfl,rfl,rfl⟩ := he
        unfold tappM at ht
        split at ht
        · rename_i hq
          obtain ⟨hne,hall⟩ := hq
          have hcl : xs.all (fun e => e.cells.length == sz) = true := List.all_eq_true.2 fun y hy => by
            have := List.all_eq_true.1 hall y hy
            simp only [Bool.and_eq_true] at this
            exact this.1
          have hpu : ∀ y ∈ xs,y.pure = true := fun y hy => by
            have := List.all_eq_true.1 hall y hy
            simp only [Bool.and_eq_true] at this
            exact this.2
          obtain ⟨g,o,s',t',cs,md,q0,q1,q2,q3,q4,q5,e1⟩ := rn hne hp
          have hss : s' = sz := by
            have h0 : 0 < xs.length := by cases xs with | nil => exact absurd rfl hne | cons => simp
            rw [← q4 0 h0]; exact zarj hcl 0 h0
          subst hss
          simp only [evI,e1,gj]
          refine ⟨fun h0 => absurd (List.eq_nil_of_length_eq_zero h0) hne,fun _ => ⟨trivial,?_⟩⟩
          rw [yd q1 q3]
          have hrow := Rows.of q3 q4 q5
          simp only [ma]
          have hsv := hs.op s
          split at ht
          · rename_i hz
            split at ht
            · rename_i hb
              simp only [Option.some.injEq,Prod.mk.injEq] at ht
              obtain ⟨rfl,rfl⟩ := ht
              rw [hz] at hsv
              rw [zasx hsv]
              refine ⟨hb,.inl ?_⟩
              have hfl := zah3 xs hrow.c
              obtain ⟨g1,g2⟩ := hs.pushOb (t := t) (cs := xs.flatMap TV.cells) (ws := (cs.drop o).take (xs.length * s')) (by rw [hfl]; exact hrow.len) (fun j hj => by
                have := flat_cr (e := e.new σ.next) (hrow.mono (zg.push σ (.cells t ((cs.drop o).take (xs.length * s')) .rw))) hpu τ.next 0 j hj
                rwa [Nat.zero_add] at this)
              refine hK _ _ _ g1 ?_ (mono g2)
              have := TR.slm (σ := σ.push (.cells t ((cs.drop o).take (xs.length * s')) .rw)) (e := e.new σ.next) (tk := tk) τ.next 0 xs.length s' (by simp only [Env.new]; have := hs.n; omega)
              have eb : (e.new σ.next).b τ.next = σ.next := by simp [Env.new,hs.n]
              rwa [eb] at this
            · cases ht
          · rename_i id o2 n s2 hz
            obtain ⟨b,hb,ht2⟩ := Option.bind_eq_some_iff.1 ht
            clear ht
            split at ht2
            · rename_i hc
              obtain ⟨rfl,rfl,hbt,hbl,hn0,hlo,hb1,hb2⟩ := hc
              simp only [Option.some.injEq,Prod.mk.injEq] at ht2
              obtain ⟨rfl,rfl⟩ := ht2
              rw [hz] at hsv
              obtain ⟨hid,e2⟩ := zapa hsv
              have hne2 : b.cs ≠ [] := fun h0 => by
                rw [h0] at hbl
                have : 0 < n * s2 := Nat.mul_pos (Nat.pos_of_ne_zero hn0) (Nat.pos_of_ne_zero hsz)
                simp at hbl; omega
              obtain ⟨ds,e3,w1,w2,w3,w4,w5,w6⟩ := hs.grow hb (by rw [← hs.n]; exact hid) (by rw [← hs.lo]; exact hlo) hne2 hbt hrow hpu
              rw [e2]
              refine ⟨rfl,rfl,⟨hb1,hb2⟩,.inl ?_⟩
              simp only [w1,ma]
              refine ⟨by omega,?_⟩
              have e4 : ds.take (n * s2) = ds := List.take_of_length_le (by omega)
              rw [e4]
              refine hK _ _ _ w5 ?_ ⟨w6.keep,w6.nx,w6.n,w6.b,fun k hk q hn => w6.ob k hk q fun hkk => hn ?_⟩
              · have := TR.slm (σ := (σ.set (e.b id) .dead).push (.cells t (ds ++ (cs.drop o).take (xs.length * s2)) .rw)) (e := e3) (tk := tk) τ.next 0 (n + xs.length) s2 w4
                rwa [w3] at this
              · simp only [me,hz,if_pos hm,vb]
                exact hkk
            · cases ht2
          · cases ht
        · cases ht
      obtain ⟨⟨v2,tk2⟩,ht,he⟩ := Option.map_eq_some_iff.1 h
      simp only [Prod.mk.injEq] at he
      obtain ⟨rfl,rfl,rfl⟩ := he
      have hcl : xs.all (fun e => e.cells.length == sz) = true := by
        have hh := ht
        unfold tapp at hh
        split at hh
        · rename_i hq
          refine List.all_eq_true.2 fun y hy => ?_
          have := List.all_eq_true.1 hq.1 y hy
          simp only [Bool.and_eq_true] at this
          exact this.1
        · cases hh
      obtain ⟨t1,t2⟩ := tapp_ok ht hs (hs.op s) hsz K fun e' σ' w' a1 a2 a3 => hK e' σ' w' a1 a2 (mono a3)
      simp only [evI]
      by_cases hne : xs = []
      · subst hne
        have t1 := t1 rfl
        generalize evO fr' x = q at hp
        cases hp with
        | slN => exact t1
        | slE a s => exact ⟨fun _ => t1,fun h => (h rfl).elim⟩
        | sl _ _ _ _ _ _ _ h => exact absurd rfl h
      · obtain ⟨g,o,s',t',cs,md,q0,q1,q2,q3,q4,q5,e1⟩ := rn hne hp
        have hss : s' = sz := by
          have h0 : 0 < xs.length := by cases xs with | nil => exact absurd rfl hne | cons => simp
          rw [← q4 0 h0]; exact zarj hcl 0 h0
        subst hss
        simp only [e1,gj]
        refine ⟨fun h0 => absurd (List.eq_nil_of_length_eq_zero h0) hne,fun _ => ⟨trivial,?_⟩⟩
        rw [yd q1 q3]
        exact t2 _ (Rows.of q3 q4 q5) hne
  | appendS t s x =>
    simp only [tOp] at h
    split at h
    · rename_i b hb
      obtain ⟨⟨v2,tk2⟩,ht,he⟩ := Option.map_eq_some_iff.1 h
      simp only [Prod.mk.injEq] at he
      obtain ⟨rfl,rfl,rfl⟩ := he
      have hx := hs.op x
      rw [hb] at hx
      obtain ⟨t1,t2⟩ := tapp_ok ht hs (hs.op s) (by decide) K fun e' σ' w' a1 a2 a3 => hK e' σ' w' a1 a2 (mono a3)
      have hlen : (ej b).length = b.size := by simp [ej]
      simp only [evI,zab7 hx,zaqs]
      refine ⟨fun h0 => t1 (List.eq_nil_of_length_eq_zero (by rw [hlen]; exact h0)),fun h0 => ?_⟩
      have := t2 _ (zas4 b) (by intro h1; rw [h1] at hlen; exact h0 hlen.symm)
      rwa [hlen] at this
    · cases h
  | toBytes t x =>
    simp only [tOp] at h
    split at h
    · rename_i s hb
      have hx := hs.op x
      rw [hb] at hx
      have hr := zas4 (σ := σ) s
      have hlen : (ej s).length = s.size := by simp [ej]
      simp only [evI,zab7 hx,zaqs]
      split at h
      · simp only [Option.some.injEq,Prod.mk.injEq] at h
        obtain ⟨rfl,rfl,rfl⟩ := h
        obtain ⟨g1,g2⟩ := hs.pushOb (t := t) (cs := ej s) (ws := ev s) (by rw [hr.len,Nat.mul_one]) (fun j hj => by
          have hj' : j < (ej s).length := by rw [hr.len,Nat.mul_one] at hj; exact hj
          have := hr.r j hj' 0 (by omega)
          rw [Nat.mul_one,Nat.add_zero] at this
          have e1 : ((ej s).getD j .undef).cells = [(ej s).getD j .undef] := by
            rw [jo (List.getElem?_eq_getElem hj')]
            simp only [ej,List.getElem_map]; rfl
          rw [e1,List.getD_cons_zero] at this
          have e2 : ∃ n,(ej s).getD j .undef = .int .u8 n := by
            rw [jo (List.getElem?_eq_getElem hj')]
            simp only [ej,List.getElem_map]; exact ⟨_,rfl⟩
          obtain ⟨n,e2⟩ := e2
          rw [e2] at this ⊢
          exact ⟨.pr (this.mono (zg.push _ _)),rfl,rfl⟩)
        refine ⟨.rw,hK _ _ _ g1 ?_ (mono g2)⟩
        have := TR.slm (σ := σ.push (.cells t (ev s) .rw)) (e := e.new σ.next) (tk := tk) τ.next 0 s.size 1 (by simp only [Env.new]; have := hs.n; omega)
        have eb : (e.new σ.next).b τ.next = σ.next := by simp [Env.new,hs.n]
        rwa [eb] at this
      split at h
      · simp only [Option.some.injEq,Prod.mk.injEq] at h
        obtain ⟨hv,rfl,rfl⟩ := h
        refine ⟨.app,?_⟩
        have hk := zg.push σ (.cells t (ev s) .app)
        have hlt : ∀ g,e.who g ≠ .none → (σ.push (.cells t (ev s) .app)).at g = σ.at g := fun g hg => mq (hs.wlt g hg)
        have hw' : ∀ g,e.who g ≠ .none → (if g = σ.next then Own.tok tk.length else e.who g) = e.who g := fun g hg => by
          have : g ≠ σ.next := by have := hs.wlt g hg; omega
          rw [if_neg this]
        refine hK ⟨e.b,e.n,fun g => if g = σ.next then .tok tk.length else e.who g⟩ _ _ ?_ ?_ (mono ⟨hk,Nat.le_succ _,Nat.le_refl _,fun _ _ => rfl,fun id hid q _ => hlt _ (by rw [q]; simp)⟩)
        · refine hs.step ⟨hk,Nat.le_refl _,fun _ _ => rfl,fun i hi => by simp; omega,fun i n t' hi hn => ?_⟩ (Nat.le_succ _) (fun g hg _ => tg hg) hs.n rfl (fun g hg => ?_) (fun g hg => ?_) (fun g id hg => ?_) (fun g hg _ => by simp only; rw [if_neg (Nat.ne_of_lt hg)]) (fun id hid => ?_)
          · rw [List.getElem?_append_left hi] at hn
            exact ⟨n,t',hn,.inl ⟨rfl,.inl rfl,fun g hg => ⟨by simp only; rw [hw' g (by rw [hg]; simp)]; exact hg,hlt g (by rw [hg]; simp)⟩⟩⟩
          · by_cases hgn : g = σ.next
            · rw [hgn]; exact .inl hs.nx
            · simp only [if_neg hgn] at hg; exact hs.mine g hg
          · by_cases hgn : g = σ.next
            · rw [hgn]; exact Nat.lt_succ_self _
            · simp only [if_neg hgn] at hg; exact Nat.lt_succ_of_lt (hs.wlt g hg)
          · by_cases hgn : g = σ.next
            · simp only [if_pos hgn] at hg; rcases hg with hg | ⟨_,hg⟩ <;> cases hg
            · simp only [if_neg hgn] at hg; exact hs.wid g id hg
          · obtain ⟨b,h1,h2⟩ := hs.ob id hid
            exact ⟨b,h1,zaru.step (e := e) hk (fun _ _ => rfl) (by have := hs.n; simp only; omega) (fun q => hlt _ (by rw [q]; simp)) (fun q => by simp only; rw [hw' _ (by rw [q]; simp)]; exact q) (fun g j hg => ⟨by simp only; rw [hw' g (by rw [hg]; simp)]; exact hg,hlt g (by rw [hg]; simp)⟩) h2⟩
        · rw [← hv]
          by_cases h0 : s.size = 0
          · rw [if_pos h0,h0]
            have e0 : ev s = [] := List.eq_nil_of_length_eq_zero (by rw [hr.len,hlen,h0])
            rw [e0]
            refine .slb _ _ _ (by simp) fun n t' hn hn0 => ⟨by simp,σ.at_push_new _⟩
          · rw [if_neg h0]
            have hne : ej s ≠ [] := fun h1 => h0 (by rw [← hlen,h1]; rfl)
            have hp := (hr.mono hk).pr hne (by decide) (σ.at_push_new _) (by simp)
            rw [hlen] at hp
            refine .sla _ _ _ hp (by simp) fun n t' hn => ?_
            simp only [List.getElem?_concat_length,Option.some.injEq,Prod.mk.injEq] at hn
            obtain ⟨rfl,rfl⟩ := hn
            exact ⟨by rw [hlen]; exact Nat.le_refl _,fun _ => .inr ⟨hne,σ.next,1,ev s,by rw [hlen],by simp,σ.at_push_new _,hr.len⟩⟩
      · simp only [Option.some.injEq,Prod.mk.injEq] at h
        obtain ⟨rfl,rfl,rfl⟩ := h
        obtain ⟨g1,g2⟩ := hs.pushRo (.cells t (ev s) .ro)
        refine ⟨.ro,hK _ _ _ g1 (.pr ?_) (mono g2)⟩
        by_cases hne : ej s = []
        · rw [hne] at hlen ⊢
          rw [← hlen]; exact .slE _ _
        · have := (hr.mono (zg.push σ (.cells t (ev s) .ro))).pr hne (by decide) (σ.at_push_new _) (by simp)
          rwa [hlen] at this
    · cases h
  | _ => exact plain h
end
end Go.Proofs.Ytdcfoaafkppojaa.Sh
