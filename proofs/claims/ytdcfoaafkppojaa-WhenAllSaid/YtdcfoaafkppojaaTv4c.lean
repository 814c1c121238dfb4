/- The tree level: append. -/
import Derived.Test.YtdcfoaafkppojaaTv4b
set_option linter.unusedVariables false
set_option linter.unusedSimpArgs false
namespace Go.Proofs.Ytdcfoaafkppojaa.Sh
open Go Go.RowKit
structure Rows (σ : ak) (l : List TV) (s : Nat) (cs : List Value) : Prop where
  len : cs.length = l.length * s
  c : ∀ i,i < l.length → (l.getD i .undef).cells.length = s
  r : ∀ i,i < l.length → ∀ j,j < s → PR σ ((l.getD i .undef).cells.getD j .undef) (cs.getD (i * s + j) undef)
theorem Rows.mono {σ σ' : ak} {l : List TV} {s : Nat} {cs : List Value} (hk : zg σ σ') (h : Rows σ l s cs) : Rows σ' l s cs := ⟨h.len,h.c,fun i hi j hj => (h.r i hi j hj).mono hk⟩
theorem Rows.append {σ : ak} {l x : List TV} {s : Nat} {cs ds : List Value} (h : Rows σ l s cs) (k : Rows σ x s ds) : Rows σ (l ++ x) s (cs ++ ds) := by
  have g1 : ∀ i,i < l.length → (l ++ x).getD i .undef = l.getD i .undef := fun i hi => by simp [List.getD_eq_getElem?_getD,List.getElem?_append_left hi]
  have g2 : ∀ i,l.length ≤ i → (l ++ x).getD i .undef = x.getD (i - l.length) .undef := fun i hi => by simp [List.getD_eq_getElem?_getD,List.getElem?_append_right hi]
  refine ⟨by simp [h.len,k.len,Nat.add_mul],fun i hi => ?_,fun i hi j hj => ?_⟩
  · by_cases hlt : i < l.length
    · rw [g1 i hlt]; exact h.c i hlt
    · rw [g2 i (by omega)]; exact k.c _ (by simp at hi; omega)
  · by_cases hlt : i < l.length
    · have hle : (i + 1) * s ≤ l.length * s := Nat.mul_le_mul_right _ hlt
      rw [Nat.add_mul,Nat.one_mul] at hle
      have e : (cs ++ ds).getD (i * s + j) undef = cs.getD (i * s + j) undef := by
        have : i * s + j < cs.length := by rw [h.len]; omega
        simp [List.getD_eq_getElem?_getD,List.getElem?_append_left this]
      rw [g1 i hlt,e]; exact h.r i hlt j hj
    · have hi2 : i - l.length < x.length := by simp at hi; omega
      have e0 : i * s = l.length * s + (i - l.length) * s := by rw [← Nat.add_mul]; congr 1; omega
      have e : (cs ++ ds).getD (i * s + j) undef = ds.getD ((i - l.length) * s + j) undef := by
        have : cs.length ≤ i * s + j := by rw [h.len]; omega
        simp only [List.getD_eq_getElem?_getD,List.getElem?_append_right this,h.len]
        congr 2; omega
      rw [g2 i (by omega),e]; exact k.r _ hi2 j hj
theorem Rows.pr {σ : ak} {l : List TV} {s g : Nat} {cs : List Value} {t : TypeId} {md : Md} (h : Rows σ l s cs) (hne : l ≠ []) (hs : s ≠ 0) (hat : σ.at g = .cells t cs md) (hm : md ≠ .rw) : PR σ (.sl l) (.slice (some ⟨g,0,none⟩) l.length s) :=
  .sl l g 0 s t cs md hne hs hat hm (by rw [h.len]; omega) h.c fun i hi j hj => by rw [Nat.zero_add]; exact h.r i hi j hj
theorem Rows.scalar {σ : ak} {l : List TV} {s : Nat} {cs : List Value} (h : Rows σ l s cs) : ∀ v ∈ cs,scalar v = true := fun v hv => by
  obtain ⟨k,hk,rfl⟩ := List.mem_iff_getElem.1 hv
  have hs : 0 < s := by
    rcases Nat.eq_zero_or_pos s with h0 | h0
    · rw [h.len,h0,Nat.mul_zero] at hk; omega
    · exact h0
  have hk2 := hk
  rw [h.len] at hk2
  have h1 : k / s < l.length := Nat.div_lt_of_lt_mul (by rw [Nat.mul_comm]; exact hk2)
  have := h.r (k / s) h1 (k % s) (Nat.mod_lt _ hs)
  rw [Nat.mul_comm,Nat.div_add_mod] at this
  rw [jo (List.getElem?_eq_getElem hk)] at this
  exact zaik this
theorem Rows.of {σ : ak} {l : List TV} {o s : Nat} {cs : List Value} (hlen : o + l.length * s ≤ cs.length) (hc : ∀ i,i < l.length → (l.getD i .undef).cells.length = s)
    (hr : ∀ i,i < l.length → ∀ j,j < s → PR σ ((l.getD i .undef).cells.getD j .undef) (cs.getD (o + i * s + j) undef)) : Rows σ l s ((cs.drop o).take (l.length * s)) := by
  refine ⟨by simp; omega,hc,fun i hi j hj => ?_⟩
  have hle : (i + 1) * s ≤ l.length * s := Nat.mul_le_mul_right _ hi
  rw [Nat.add_mul,Nat.one_mul] at hle
  rw [db _ _ _ _ _ (by omega),← Nat.add_assoc]
  exact hr i hi j hj
section
variable {P : Program} {B : Bs} {e e' : Env} {fr : TF} {tk tk' : TK} {τ τ' : TH} {fr' : Fr} {σ σ' : ak}
theorem sla_nil {tok : Nat} {l : List TV} {n : Nat} {t : TypeId} {w : Value} (h : TR σ e tk (.sla tok l) w) (hn : tk[tok]? = some (some (n,t))) : PR σ (.sl l) w ∧ tok < tk.length ∧ l.length ≤ n ∧ (l.length = n → Link σ (fun g => e.who g = .tok tok) t l w) := by
  cases h with
  | sla _ _ _ h hlt hl => exact ⟨h,hlt,hl n t hn⟩
  | pr h => cases h
theorem zarj {xs : List TV} {sz : Nat} (h : xs.all (fun e => e.cells.length == sz) = true) : ∀ i,i < xs.length → (xs.getD i .undef).cells.length = sz := fun i hi => by
  have := List.all_eq_true.1 h _ (List.getElem_mem hi)
  rw [jo (List.getElem?_eq_getElem hi)]
  simpa using this
theorem tapp_ok {t : TypeId} {sz bytes : Nat} {s v : TV} {xs : List TV} {tk2 : TK} {w : Value} (h : tapp t sz bytes s xs tk = some (v,tk2)) (hs : St B e fr tk τ fr' σ) (hw : TR σ e tk s w) (hsz : sz ≠ 0) (K : Value → ak → Prop)
    (hK : ∀ e' σ' w',St B e' fr tk2 τ fr' σ' → TR σ' e' tk2 v w' → Chg (fun _ => False) e σ e' σ' → K w' σ') :
    (xs = [] → gj w (K w σ) fun _ _ _ => K w σ) ∧ ∀ news,Rows σ xs sz news → xs ≠ [] → appK σ t sz bytes w xs.length news K := by
  unfold tapp at h
  split at h
  · rename_i hx
    obtain ⟨hx1,hx2,hx3⟩ := hx
    split at h
    · -- nil
      simp only [Option.some.injEq,Prod.mk.injEq] at h
      obtain ⟨rfl,rfl⟩ := h
      rw [zasx hw]
      refine ⟨fun hx0 => ?_,fun news hrow hne => ?_⟩
      · subst hx0
        refine hK e σ _ (hs.newTok _) (.sla _ _ _ .slN (by simp) fun n t' hn => ?_) (.refl _ _ _)
        simp only [List.getElem?_concat_length,Option.some.injEq,Prod.mk.injEq] at hn
        obtain ⟨rfl,rfl⟩ := hn
        exact ⟨Nat.le_refl _,fun _ => .inl ⟨rfl,rfl⟩⟩
      · refine ⟨⟨hx2,hx3⟩,.inr ?_⟩
        have hk := zg.push σ (.cells t news .app)
        have hlt : ∀ g,e.who g ≠ .none → (σ.push (.cells t news .app)).at g = σ.at g := fun g hg => mq (hs.wlt g hg)
        have hw' : ∀ g,e.who g ≠ .none → (if g = σ.next then Own.tok tk.length else e.who g) = e.who g := fun g hg => by
          have : g ≠ σ.next := by have := hs.wlt g hg; omega
          rw [if_neg this]
        refine hK ⟨e.b,e.n,fun g => if g = σ.next then .tok tk.length else e.who g⟩ _ _ ?_ ?_ ⟨hk,Nat.le_succ _,Nat.le_refl _,fun _ _ => rfl,fun id hid q _ => hlt _ (by rw [q]; simp)⟩
        · refine hs.step ⟨hk,Nat.le_refl _,fun _ _ => rfl,fun i hi => by simp; omega,fun i n t' hi hn => ?_⟩ (Nat.le_succ _) (fun g hg _ => tg hg) hs.n rfl (fun g hg => ?_) (fun g hg => ?_) (fun g id hg => ?_) (fun g hg _ => by simp only; rw [if_neg (Nat.ne_of_lt hg)]) (fun id hid => ?_)
          · rw [List.getElem?_append_left hi] at hn
            exact ⟨n,t',hn,.inl ⟨rfl,.inl rfl,fun g hg => ⟨by simp only; rw [hw' g (by rw [hg]; simp)]; exact hg,hlt g (by rw [hg]; simp)⟩⟩⟩
          · by_cases hgn : g = σ.next
            · rw [hgn]; exact .inl hs.nx
            · simp only [if_neg hgn] at hg; exact hs.mine g hg
          · by_cases hgn : g = σ.next
            · rw [hgn]; exact Nat.lt_succ_self _
            · simp only [if_neg hgn] at hg; exact Nat.lt_succ_of_lt (hs.wlt g hg)
          · by_cases hgn : g = σ.next
            · simp only [if_pos hgn] at hg; rcases hg with hg | ⟨_,hg⟩ <;> cases hg
            · simp only [if_neg hgn] at hg; exact hs.wid g id hg
          · obtain ⟨b,h1,h2⟩ := hs.ob id hid
            exact ⟨b,h1,zaru.step (e := e) hk (fun _ _ => rfl) (by have := hs.n; simp only; omega) (fun q => hlt _ (by rw [q]; simp)) (fun q => by simp only; rw [hw' _ (by rw [q]; simp)]; exact q) (fun g j hg => ⟨by simp only; rw [hw' g (by rw [hg]; simp)]; exact hg,hlt g (by rw [hg]; simp)⟩) h2⟩
        · refine .sla _ _ _ ((hrow.mono hk).pr hne hsz (σ.at_push_new _) (by simp)) (by simp) fun n t' hn => ?_
          simp only [List.getElem?_concat_length,Option.some.injEq,Prod.mk.injEq] at hn
          obtain ⟨rfl,rfl⟩ := hn
          exact ⟨Nat.le_refl _,fun _ => .inr ⟨hne,σ.next,sz,news,rfl,by simp,σ.at_push_new _,hrow.len⟩⟩
    · -- an empty row
      rename_i tok t0
      split at h
      · rename_i n t' htk
        split at h
        · rename_i hc
          obtain ⟨rfl,rfl,rfl,hxne⟩ := hc
          simp only [Option.some.injEq,Prod.mk.injEq] at h
          obtain ⟨rfl,rfl⟩ := h
          obtain ⟨g,rfl,hlt,hl⟩ := za22 hw
          obtain ⟨q3,q4⟩ := hl _ _ htk rfl
          have hset : ∀ x,(tk.set tok x)[tok]? = some x := fun x => by simp [hlt]
          have hsetn : ∀ i x,i ≠ tok → (tk.set tok x)[i]? = tk[i]? := fun i x hi => by rw [List.getElem?_set_ne (Ne.symm hi)]
          refine ⟨fun hx0 => absurd hx0 hxne,fun news hrow hne => ?_⟩
          have hgl : g < σ.next := ak.lt_of_at (by rw [q4]; rfl)
          have hap : σ.apRow t0 g = some [] := by unfold ak.apRow; rw [q4]; simp
          refine ⟨rfl,rfl,⟨by simpa using hx2,by simpa using hx3⟩,.inr ?_⟩
          simp only [hap,ma]
          refine ⟨rfl,?_⟩
          have nx : (σ.set g (.cells t0 [] .ro)).next = σ.next := rfl
          have oat : ∀ k,k < σ.next → k ≠ g → ((σ.set g (.cells t0 [] .ro)).push (.cells t0 ([] ++ news) .app)).at k = σ.at k := fun k hk hkg => by
            rw [mq (by rw [nx]; exact hk)]; exact σ.at_set_ne _ hkg
          have gat : ((σ.set g (.cells t0 [] .ro)).push (.cells t0 ([] ++ news) .app)).at g = .cells t0 [] .ro := by
            rw [mq (by rw [nx]; exact hgl)]; exact σ.at_set_same _ hgl
          have nat : ((σ.set g (.cells t0 [] .ro)).push (.cells t0 ([] ++ news) .app)).at σ.next = .cells t0 news .app := (σ.set g (.cells t0 [] .ro)).at_push_new _
          have hk : zg σ ((σ.set g (.cells t0 [] .ro)).push (.cells t0 ([] ++ news) .app)) := fun k t2 ds md hkk hm => by
            by_cases hkg : k = g
            · subst hkg; rw [q4] at hkk; cases hkk; exact ⟨.ro,by simp,gat⟩
            · exact ⟨md,hm,by rw [oat k (ak.lt_of_at (by rw [hkk]; rfl)) hkg]; exact hkk⟩
          have who' : ∀ k,e.who k ≠ .none → k ≠ g → (if k = σ.next then Own.tok tok else if k = g then .none else e.who k) = e.who k := fun k hk hkg => by
            have : k ≠ σ.next := by have := hs.wlt k hk; omega
            rw [if_neg this,if_neg hkg]
          have ne : ∀ k,e.who k ≠ .tok tok → k ≠ g := fun k hk hkg => hk (by rw [hkg]; exact q3)
          have e0 : (0 : Nat) + xs.length = xs.length := Nat.zero_add _
          rw [e0]
          refine hK ⟨e.b,e.n,fun k => if k = σ.next then .tok tok else if k = g then .none else e.who k⟩ _ _ ?_ ?_ ⟨hk,Nat.le_succ _,Nat.le_refl _,fun _ _ => rfl,fun id hid q _ => ?_⟩
          · refine hs.step ⟨hk,Nat.le_refl _,fun _ _ => rfl,fun i hi => by simpa using hi,fun i n' t2 hi hn => ?_⟩ (Nat.le_succ _) (fun k hkn hkm => ?_) hs.n rfl (fun k hkm => ?_) (fun k hkm => ?_) (fun k id hkm => ?_) (fun k hkn hkm => ?_) (fun id hid => ?_)
            · by_cases hit : i = tok
              · subst hit
                rw [hset] at hn
                simp only [Option.some.injEq,Prod.mk.injEq] at hn
                obtain ⟨rfl,rfl⟩ := hn
                have : 0 < xs.length := by cases xs with | nil => exact absurd rfl hne | cons => simp
                exact ⟨_,t',htk,.inr (by omega)⟩
              · rw [hsetn i _ hit] at hn
                refine ⟨n',t2,hn,.inl ⟨rfl,.inl rfl,fun k hkk => ?_⟩⟩
                have hkg := ne k (by rw [hkk]; intro h; injection h with h; exact hit h)
                exact ⟨by simp only; rw [who' k (by rw [hkk]; simp) hkg]; exact hkk,oat k (hs.wlt k (by rw [hkk]; simp)) hkg⟩
            · have hkg := ne k (fun h => hkm (by rw [h]; trivial))
              rw [tg (by rw [nx]; exact hkn),zal7 hkg]
            · by_cases h1 : k = σ.next
              · rw [h1]; exact .inl hs.nx
              · by_cases h2 : k = g
                · simp only [if_neg h1,if_pos h2] at hkm; exact hkm.elim
                · simp only [if_neg h1,if_neg h2] at hkm; exact hs.mine k hkm
            · by_cases h1 : k = σ.next
              · rw [h1]; exact Nat.lt_succ_self _
              · by_cases h2 : k = g
                · simp only [if_neg h1,if_pos h2] at hkm; exact absurd rfl hkm
                · simp only [if_neg h1,if_neg h2] at hkm; exact Nat.lt_succ_of_lt (hs.wlt k hkm)
            · by_cases h1 : k = σ.next
              · simp only [if_pos h1] at hkm; rcases hkm with hkm | ⟨_,hkm⟩ <;> cases hkm
              · by_cases h2 : k = g
                · simp only [if_neg h1,if_pos h2] at hkm; rcases hkm with hkm | ⟨_,hkm⟩ <;> cases hkm
                · simp only [if_neg h1,if_neg h2] at hkm; exact hs.wid k id hkm
            · have hkg := ne k (fun h => hkm (by rw [h]; trivial))
              simp only
              rw [if_neg (Nat.ne_of_lt hkn),if_neg hkg]
            · obtain ⟨b,h1,h2⟩ := hs.ob id hid
              have hkg := fun (q : e.who (e.b id) = .obj id) => ne (e.b id) (by rw [q]; simp)
              refine ⟨b,h1,zaru.step (e := e) hk (fun _ _ => rfl) (by have := hs.n; simp only; omega) (fun q => oat _ (hs.wlt _ (by rw [q]; simp)) (hkg q)) (fun q => by simp only; rw [who' _ (by rw [q]; simp) (hkg q)]; exact q) (fun k j hkk => ?_) h2⟩
              have hkg := ne k (by rw [hkk]; simp)
              exact ⟨by simp only; rw [who' k (by rw [hkk]; simp) hkg]; exact hkk,oat k (hs.wlt k (by rw [hkk]; simp)) hkg⟩
          · have hp2 := (hrow.mono hk).pr hne hsz nat (by simp)
            refine .sla _ _ _ hp2 (by simpa using hlt) fun n' t2 hn => ?_
            rw [hset] at hn
            simp only [Option.some.injEq,Prod.mk.injEq] at hn
            obtain ⟨rfl,rfl⟩ := hn
            exact ⟨Nat.le_refl _,fun _ => .inr ⟨hne,σ.next,1,news,rfl,by simp,nat,hrow.len⟩⟩
          · exact oat _ (hs.wlt _ (by rw [q]; simp)) (ne _ (by rw [q]; simp))
        · cases h
      · cases h
    · -- a token
      rename_i tok l
      split at h
      · rename_i n t' htk
        split at h
        · rename_i hc
          obtain ⟨rfl,ht,hcl,hb1,hb2⟩ := hc
          simp only [Option.some.injEq,Prod.mk.injEq] at h
          obtain ⟨rfl,rfl⟩ := h
          obtain ⟨hp,hlt,_,hlk⟩ := sla_nil hw htk
          have hlk := hlk rfl
          have hset : ∀ x,(tk.set tok x)[tok]? = some x := fun x => by simp [hlt]
          have hsetn : ∀ i x,i ≠ tok → (tk.set tok x)[i]? = tk[i]? := fun i x hi => by rw [List.getElem?_set_ne (Ne.symm hi)]
          refine ⟨fun hx0 => ?_,fun news hrow hne => ?_⟩
          · subst hx0
            have fin : K w σ := by
              refine hK e σ w ?_ ?_ (.refl _ _ _)
              · refine hs.step ⟨.refl _,Nat.le_refl _,fun _ _ => rfl,fun i hi => by simpa using hi,fun i n' t2 hi hn => ?_⟩ (Nat.le_refl _) (fun _ _ _ => rfl) hs.n rfl hs.mine hs.wlt hs.wid (fun _ _ _ => rfl) hs.ob
                by_cases hit : i = tok
                · subst hit
                  rw [hset] at hn
                  simp only [List.length_nil,Nat.add_zero,Option.some.injEq,Prod.mk.injEq] at hn
                  obtain ⟨rfl,rfl⟩ := hn
                  exact ⟨_,t',htk,.inl ⟨rfl,ht.symm,fun g hg => ⟨hg,rfl⟩⟩⟩
                · rw [hsetn i _ hit] at hn
                  exact ⟨n',t2,hn,.inl ⟨rfl,.inl rfl,fun g hg => ⟨hg,rfl⟩⟩⟩
              · rw [List.append_nil]
                refine .sla _ _ _ hp (by simpa using hlt) fun n' t2 hn => ?_
                rw [hset] at hn
                simp only [List.length_nil,Nat.add_zero,Option.some.injEq,Prod.mk.injEq] at hn
                obtain ⟨rfl,rfl⟩ := hn
                refine ⟨Nat.le_refl _,fun _ => ?_⟩
                rcases hlk with hlk | ⟨q1,g,s,cs,q2,q3,q4,q5⟩
                · exact .inl hlk
                · have : t' = t := ht.resolve_left fun h0 => q1 (List.eq_nil_of_length_eq_zero h0)
                  exact .inr ⟨q1,g,s,cs,q2,q3,by rw [← this]; exact q4,q5⟩
            obtain ⟨a,s,rfl⟩ := zack hp
            cases a with
            | none => exact fin
            | some a => exact fin
          · rcases hlk with ⟨rfl,rfl⟩ | ⟨q1,g,s,cs,rfl,q3,q4,q5⟩
            · -- the first ones
              refine ⟨⟨by simpa using hb1,by simpa using hb2⟩,.inr ?_⟩
              have hk := zg.push σ (.cells t news .app)
              have hltg : ∀ g,e.who g ≠ .none → (σ.push (.cells t news .app)).at g = σ.at g := fun g hg => mq (hs.wlt g hg)
              have hw' : ∀ g,e.who g ≠ .none → (if g = σ.next then Own.tok tok else e.who g) = e.who g := fun g hg => by
                have : g ≠ σ.next := by have := hs.wlt g hg; omega
                rw [if_neg this]
              refine hK ⟨e.b,e.n,fun g => if g = σ.next then .tok tok else e.who g⟩ _ _ ?_ ?_ ⟨hk,Nat.le_succ _,Nat.le_refl _,fun _ _ => rfl,fun id hid q _ => hltg _ (by rw [q]; simp)⟩
              · refine hs.step ⟨hk,Nat.le_refl _,fun _ _ => rfl,fun i hi => by simpa using hi,fun i n' t2 hi hn => ?_⟩ (Nat.le_succ _) (fun g hg _ => tg hg) hs.n rfl (fun g hg => ?_) (fun g hg => ?_) (fun g id hg => ?_) (fun g hg _ => by simp only; rw [if_neg (Nat.ne_of_lt hg)]) (fun id hid => ?_)
                · by_cases hit : i = tok
                  · subst hit
                    rw [hset] at hn
                    simp only [List.length_nil,Nat.zero_add,Option.some.injEq,Prod.mk.injEq] at hn
                    obtain ⟨rfl,rfl⟩ := hn
                    have : 0 < xs.length := by cases xs with | nil => exact absurd rfl hne | cons => simp
                    exact ⟨_,t',htk,.inr (by simpa using this)⟩
                  · rw [hsetn i _ hit] at hn
                    exact ⟨n',t2,hn,.inl ⟨rfl,.inl rfl,fun g hg => ⟨by simp only; rw [hw' g (by rw [hg]; simp)]; exact hg,hltg g (by rw [hg]; simp)⟩⟩⟩
                · by_cases hgn : g = σ.next
                  · rw [hgn]; exact .inl hs.nx
                  · simp only [if_neg hgn] at hg; exact hs.mine g hg
                · by_cases hgn : g = σ.next
                  · rw [hgn]; exact Nat.lt_succ_self _
                  · simp only [if_neg hgn] at hg; exact Nat.lt_succ_of_lt (hs.wlt g hg)
                · by_cases hgn : g = σ.next
                  · simp only [if_pos hgn] at hg; rcases hg with hg | ⟨_,hg⟩ <;> cases hg
                  · simp only [if_neg hgn] at hg; exact hs.wid g id hg
                · obtain ⟨b,h1,h2⟩ := hs.ob id hid
                  exact ⟨b,h1,zaru.step (e := e) hk (fun _ _ => rfl) (by have := hs.n; simp only; omega) (fun q => hltg _ (by rw [q]; simp)) (fun q => by simp only; rw [hw' _ (by rw [q]; simp)]; exact q) (fun g j hg => ⟨by simp only; rw [hw' g (by rw [hg]; simp)]; exact hg,hltg g (by rw [hg]; simp)⟩) h2⟩
              · refine .sla _ _ _ ((hrow.mono hk).pr hne hsz (σ.at_push_new _) (by simp)) (by simpa using hlt) fun n' t2 hn => ?_
                rw [hset] at hn
                simp only [List.length_nil,Nat.zero_add,Option.some.injEq,Prod.mk.injEq] at hn
                obtain ⟨rfl,rfl⟩ := hn
                exact ⟨Nat.le_refl _,fun _ => .inr ⟨hne,σ.next,sz,news,rfl,by simp,σ.at_push_new _,hrow.len⟩⟩
            · -- behind others
              have ht2 : t' = t := ht.resolve_left fun h0 => q1 (List.eq_nil_of_length_eq_zero h0)
              subst ht2
              have hcl' := zarj hcl
              obtain ⟨g',o',s',t2,cs',md,p0,p1,p2,p3,p4,p5,p6⟩ := rn q1 hp
              injection p6 with p6 _ p7
              injection p6 with p6
              injection p6 with p6 p8
              subst p6 p7 p8
              rw [q4] at p1
              injection p1 with p1 p1' p1''
              subst p1 p1' p1''
              have hss : s = sz := by
                have h0 : 0 < l.length := by cases l with | nil => exact absurd rfl q1 | cons => simp
                rw [← p4 0 h0]; exact hcl' 0 h0
              subst hss
              have hrl : Rows σ l s cs := ⟨q5,p4,fun i hi j hj => by have := p5 i hi j hj; rwa [Nat.zero_add] at this⟩
              have hgl : g < σ.next := ak.lt_of_at (by rw [q4]; rfl)
              have hap : σ.apRow t' g = some cs := by unfold ak.apRow; rw [q4]; simp
              refine ⟨rfl,rfl,⟨hb1,hb2⟩,.inr ?_⟩
              simp only [hap,ma]
              refine ⟨q5.symm,?_⟩
              have nx : (σ.set g (.cells t' cs .ro)).next = σ.next := rfl
              have oat : ∀ k,k < σ.next → k ≠ g → ((σ.set g (.cells t' cs .ro)).push (.cells t' (cs ++ news) .app)).at k = σ.at k := fun k hk hkg => by
                rw [mq (by rw [nx]; exact hk)]; exact σ.at_set_ne _ hkg
              have gat : ((σ.set g (.cells t' cs .ro)).push (.cells t' (cs ++ news) .app)).at g = .cells t' cs .ro := by
                rw [mq (by rw [nx]; exact hgl)]; exact σ.at_set_same _ hgl
              have nat : ((σ.set g (.cells t' cs .ro)).push (.cells t' (cs ++ news) .app)).at σ.next = .cells t' (cs ++ news) .app := (σ.set g (.cells t' cs .ro)).at_push_new _
              have hk : zg σ ((σ.set g (.cells t' cs .ro)).push (.cells t' (cs ++ news) .app)) := fun k t2 ds md hkk hm => by
                by_cases hkg : k = g
                · subst hkg; rw [q4] at hkk; cases hkk; exact ⟨.ro,by simp,gat⟩
                · exact ⟨md,hm,by rw [oat k (ak.lt_of_at (by rw [hkk]; rfl)) hkg]; exact hkk⟩
              have who' : ∀ k,e.who k ≠ .none → k ≠ g → (if k = σ.next then Own.tok tok else if k = g then .none else e.who k) = e.who k := fun k hk hkg => by
                have : k ≠ σ.next := by have := hs.wlt k hk; omega
                rw [if_neg this,if_neg hkg]
              have ne : ∀ k,e.who k ≠ .tok tok → k ≠ g := fun k hk hkg => hk (by rw [hkg]; exact q3)
              refine hK ⟨e.b,e.n,fun k => if k = σ.next then .tok tok else if k = g then .none else e.who k⟩ _ _ ?_ ?_ ⟨hk,Nat.le_succ _,Nat.le_refl _,fun _ _ => rfl,fun id hid q _ => ?_⟩
              · refine hs.step ⟨hk,Nat.le_refl _,fun _ _ => rfl,fun i hi => by simpa using hi,fun i n' t2 hi hn => ?_⟩ (Nat.le_succ _) (fun k hkn hkm => ?_) hs.n rfl (fun k hkm => ?_) (fun k hkm => ?_) (fun k id hkm => ?_) (fun k hkn hkm => ?_) (fun id hid => ?_)
                · by_cases hit : i = tok
                  · subst hit
                    rw [hset] at hn
                    simp only [Option.some.injEq,Prod.mk.injEq] at hn
                    obtain ⟨rfl,rfl⟩ := hn
                    have : 0 < xs.length := by cases xs with | nil => exact absurd rfl hne | cons => simp
                    exact ⟨_,t',htk,.inr (by omega)⟩
                  · rw [hsetn i _ hit] at hn
                    refine ⟨n',t2,hn,.inl ⟨rfl,.inl rfl,fun k hkk => ?_⟩⟩
                    have hkg := ne k (by rw [hkk]; intro h; injection h with h; exact hit h)
                    exact ⟨by simp only; rw [who' k (by rw [hkk]; simp) hkg]; exact hkk,oat k (hs.wlt k (by rw [hkk]; simp)) hkg⟩
                · have hkg := ne k (fun h => hkm (by rw [h]; trivial))
                  rw [tg (by rw [nx]; exact hkn),zal7 hkg]
                · by_cases h1 : k = σ.next
                  · rw [h1]; exact .inl hs.nx
                  · by_cases h2 : k = g
                    · simp only [if_neg h1,if_pos h2] at hkm; exact hkm.elim
                    · simp only [if_neg h1,if_neg h2] at hkm; exact hs.mine k hkm
                · by_cases h1 : k = σ.next
                  · rw [h1]; exact Nat.lt_succ_self _
                  · by_cases h2 : k = g
                    · simp only [if_neg h1,if_pos h2] at hkm; exact absurd rfl hkm
                    · simp only [if_neg h1,if_neg h2] at hkm; exact Nat.lt_succ_of_lt (hs.wlt k hkm)
                · by_cases h1 : k = σ.next
                  · simp only [if_pos h1] at hkm; rcases hkm with hkm | ⟨_,hkm⟩ <;> cases hkm
                  · by_cases h2 : k = g
                    · simp only [if_neg h1,if_pos h2] at hkm; rcases hkm with hkm | ⟨_,hkm⟩ <;> cases hkm
                    · simp only [if_neg h1,if_neg h2] at hkm; exact hs.wid k id hkm
                · have hkg := ne k (fun h => hkm (by rw [h]; trivial))
                  simp only
                  rw [if_neg (Nat.ne_of_lt hkn),if_neg hkg]
                · obtain ⟨b,h1,h2⟩ := hs.ob id hid
                  have hkg := fun (q : e.who (e.b id) = .obj id) => ne (e.b id) (by rw [q]; simp)
                  refine ⟨b,h1,zaru.step (e := e) hk (fun _ _ => rfl) (by have := hs.n; simp only; omega) (fun q => oat _ (hs.wlt _ (by rw [q]; simp)) (hkg q)) (fun q => by simp only; rw [who' _ (by rw [q]; simp) (hkg q)]; exact q) (fun k j hkk => ?_) h2⟩
                  have hkg := ne k (by rw [hkk]; simp)
                  exact ⟨by simp only; rw [who' k (by rw [hkk]; simp) hkg]; exact hkk,oat k (hs.wlt k (by rw [hkk]; simp)) hkg⟩
              · have hne2 : l ++ xs ≠ [] := by simp [q1]
                have hr2 := (hrl.mono hk).append (hrow.mono hk)
                have hp2 := hr2.pr hne2 hsz nat (by simp)
                rw [List.length_append] at hp2
                refine .sla _ _ _ hp2 (by simpa using hlt) fun n' t2 hn => ?_
                rw [hset] at hn
                simp only [Option.some.injEq,Prod.mk.injEq] at hn
                obtain ⟨rfl,rfl⟩ := hn
                refine ⟨by simp,fun _ => .inr ⟨hne2,σ.next,s,cs ++ news,by simp,by simp,nat,by rw [hr2.len]⟩⟩
              · exact oat _ (hs.wlt _ (by rw [q]; simp)) (ne _ (by rw [q]; simp))
        · cases h
      · cases h
    · cases h
  · cases h
end
end Go.Proofs.Ytdcfoaafkppojaa.Sh
