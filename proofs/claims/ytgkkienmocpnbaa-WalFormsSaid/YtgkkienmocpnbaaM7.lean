import Derived.Test.YtgkkienmocpnbaaM6
set_option linter.unusedVariables false
set_option linter.unusedSimpArgs false
namespace Go.Proofs.Ytgkkienmocpnbaa.Sh
open Go Go.RowKit
structure Rows (σ:ah) (l:List TV) (s:Nat) (cs:List Value):Prop where
 len:cs.length = l.length * s
 c:∀ i,i < l.length → (l.getD i .undef).cells.length = s
 r:∀ i,i < l.length → ∀ j,j < s → PR σ ((l.getD i .undef).cells.getD j .undef) (cs.getD (i * s + j) undef)
theorem Rows.mono {σ σ':ah} {l:List TV} {s:Nat} {cs:List Value} (hk:ye σ σ') (h:Rows σ l s cs):Rows σ' l s cs:=⟨h.len,h.c,fun i hi j hj => (h.r i hi j hj).mono hk⟩
theorem Rows.append {σ:ah} {l x:List TV} {s:Nat} {cs ds:List Value} (h:Rows σ l s cs) (k:Rows σ x s ds):Rows σ (l ++ x) s (cs ++ ds):=by
 have g1:∀ i,i < l.length → (l ++ x).getD i .undef = l.getD i .undef:=fun i hi => by simp [List.getD_eq_getElem?_getD,List.getElem?_append_left hi]
 have g2:∀ i,l.length ≤ i → (l ++ x).getD i .undef = x.getD (i - l.length) .undef:=fun i hi => by simp [List.getD_eq_getElem?_getD,List.getElem?_append_right hi]
 refine ⟨by simp [h.len,k.len,Nat.add_mul],fun i hi => ?_,fun i hi j hj => ?_⟩
 · by_cases hlt:i < l.length
   · rw [g1 i hlt]; exact h.c i hlt
   · rw [g2 i (by omega)]; exact k.c _ (by simp at hi; omega)
 · by_cases hlt:i < l.length
   · have hle:(i + 1) * s ≤ l.length * s:=Nat.mul_le_mul_right _ hlt
     rw [Nat.add_mul,Nat.one_mul] at hle
     have e:(cs ++ ds).getD (i * s + j) undef = cs.getD (i * s + j) undef:=by
      have:i * s + j < cs.length:=by rw [h.len]; omega
      simp [List.getD_eq_getElem?_getD,List.getElem?_append_left this]
     rw [g1 i hlt,e]; exact h.r i hlt j hj
   · have hi2:i - l.length < x.length:=by simp at hi; omega
     have e0:i * s = l.length * s + (i - l.length) * s:=by rw [← Nat.add_mul]; congr 1; omega
     have e:(cs ++ ds).getD (i * s + j) undef = ds.getD ((i - l.length) * s + j) undef:=by
      have:cs.length ≤ i * s + j:=by rw [h.len]; omega
      simp only [List.getD_eq_getElem?_getD,List.getElem?_append_right this,h.len]
      congr 2; omega
     rw [g2 i (by omega),e]; exact k.r _ hi2 j hj
theorem Rows.pr {σ:ah} {l:List TV} {s g:Nat} {cs:List Value} {t:TypeId} {md:Md} (h:Rows σ l s cs) (hne:l ≠ []) (hs:s ≠ 0) (hat:σ.at g = .cells t cs md) (hm:md ≠ .rw):PR σ (.sl l) (.slice (some ⟨g,0,none⟩) l.length s) :=
 .sl l g 0 s t cs md hne hs hat hm (by rw [h.len]; omega) h.c fun i hi j hj => by rw [Nat.zero_add]; exact h.r i hi j hj
theorem Rows.scalar {σ:ah} {l:List TV} {s:Nat} {cs:List Value} (h:Rows σ l s cs):∀ v ∈ cs,scalar v = true:=fun v hv => by
 obtain ⟨k,hk,rfl⟩:=List.mem_iff_getElem.1 hv
 have hs:0 < s:=by
  rcases Nat.eq_zero_or_pos s with h0 | h0
  · rw [h.len,h0,Nat.mul_zero] at hk; omega
  · exact h0
 have hk2:=hk
 rw [h.len] at hk2
 have h1:k / s < l.length:=Nat.div_lt_of_lt_mul (by rw [Nat.mul_comm]; exact hk2)
 have:=h.r (k / s) h1 (k % s) (Nat.mod_lt _ hs)
 rw [Nat.mul_comm,Nat.div_add_mod] at this
 rw [gj (List.getElem?_eq_getElem hk)] at this
 exact zbl6 this
theorem Rows.of {σ:ah} {l:List TV} {o s:Nat} {cs:List Value} (hlen:o + l.length * s ≤ cs.length) (hc:∀ i,i < l.length → (l.getD i .undef).cells.length = s)
 (hr:∀ i,i < l.length → ∀ j,j < s → PR σ ((l.getD i .undef).cells.getD j .undef) (cs.getD (o + i * s + j) undef)):Rows σ l s ((cs.drop o).take (l.length * s)):=by
 refine ⟨by simp; omega,hc,fun i hi j hj => ?_⟩
 have hle:(i + 1) * s ≤ l.length * s:=Nat.mul_le_mul_right _ hi
 rw [Nat.add_mul,Nat.one_mul] at hle
 rw [dc _ _ _ _ _ (by omega),← Nat.add_assoc]
 exact hr i hi j hj
section
variable {P:Program} {B:Bs} {e e':Env} {fr:TF} {tk tk':TK} {τ τ':TH} {fr':Fr} {σ σ':ah}
theorem zbp0 {tok:Nat} {l:List TV} {n:Nat} {t:TypeId} {w:Value} (h:TR σ e tk (.sla tok l) w) (hn:tk[tok]? = some (some (n,t))):PR σ (.sl l) w ∧ tok < tk.length ∧ l.length ≤ n ∧ (l.length = n → zbqr σ (fun g => e.who g = .tok tok) t l w):=by
 cases h with
 | sla _ _ _ h hlt hl => exact ⟨h,hlt,hl n t hn⟩
 | pr h => cases h
theorem zblz {xs:List TV} {sz:Nat} (h:xs.all (fun e => e.cells.length == sz) = true):∀ i,i < xs.length → (xs.getD i .undef).cells.length = sz:=fun i hi => by
 have:=List.all_eq_true.1 h _ (List.getElem_mem hi)
 rw [gj (List.getElem?_eq_getElem hi)]
 simpa using this
theorem zbps {t:TypeId} {sz bytes:Nat} {s v:TV} {xs:List TV} {tk2:TK} {w:Value} (h:i8 t sz bytes s xs tk = some (v,tk2)) (hs:St B e fr tk τ fr' σ) (hw:TR σ e tk s w) (hsz:sz ≠ 0) (K:Value → ah → Prop)
 (hK:∀ e' σ' w',St B e' fr tk2 τ fr' σ' → TR σ' e' tk2 v w' → Chg (fun _ => False) e σ e' σ' → K w' σ') :
 (xs = [] → eu w (K w σ) fun _ _ _ => K w σ) ∧ ∀ news,Rows σ xs sz news → xs ≠ [] → zbah σ t sz bytes w xs.length news K:=by
 unfold i8 at h
 split at h
 · rename_i hx
   obtain ⟨hx1,hx2,hx3⟩:=hx
   split at h
   · -- nil
     simp only [Option.some.injEq,Prod.mk.injEq] at h
     obtain ⟨rfl,rfl⟩:=h
     rw [zbfz hw]
     refine ⟨fun hx0 => ?_,fun news hrow hne => ?_⟩
     · subst hx0
       refine hK e σ _ (hs.newTok _) (.sla _ _ _ .slN (by simp) fun n t' hn => ?_) (.refl _ _ _)
       simp only [List.getElem?_concat_length,Option.some.injEq,Prod.mk.injEq] at hn
       obtain ⟨rfl,rfl⟩:=hn
       exact ⟨Nat.le_refl _,fun _ => .inl ⟨rfl,rfl⟩⟩
     · refine ⟨⟨hx2,hx3⟩,.inr ?_⟩
       have hk:=ye.push σ (.cells t news .app)
       have hlt:∀ g,e.who g ≠ .none → (σ.push (.cells t news .app)).at g = σ.at g:=fun g hg => ln (hs.wlt g hg)
       have hw':∀ g,e.who g ≠ .none → (if g = σ.next then Own.tok tk.length else e.who g) = e.who g:=fun g hg => by
        have:g ≠ σ.next:=by have:=hs.wlt g hg; omega
        rw [if_neg this]
       refine hK ⟨e.b,e.n,fun g => if g = σ.next then .tok tk.length else e.who g⟩ _ _ ?_ ?_ ⟨hk,Nat.le_succ _,Nat.le_refl _,fun _ _ => rfl,fun id hid q _ => hlt _ (by rw [q]; simp)⟩
       · refine hs.step ⟨hk,Nat.le_refl _,fun _ _ => rfl,fun i hi => by simp; omega,fun i n t' hi hn => ?_⟩ (Nat.le_succ _) (fun g hg _ => t8 hg) hs.n rfl (fun g hg => ?_) (fun g hg => ?_) (fun g id hg => ?_) (fun g hg _ => by simp only; rw [if_neg (Nat.ne_of_lt hg)]) (fun id hid => ?_)
         · rw [List.getElem?_append_left hi] at hn
           exact ⟨n,t',hn,.inl ⟨rfl,.inl rfl,fun g hg => ⟨by simp only; rw [hw' g (by rw [hg]; simp)]; exact hg,hlt g (by rw [hg]; simp)⟩⟩⟩
         · by_cases hgn:g = σ.next
           · rw [hgn]; exact .inl hs.nx
           · simp only [if_neg hgn] at hg; exact hs.mine g hg
         · by_cases hgn:g = σ.next
           · rw [hgn]; exact Nat.lt_succ_self _
           · simp only [if_neg hgn] at hg; exact Nat.lt_succ_of_lt (hs.wlt g hg)
         · by_cases hgn:g = σ.next
           · simp only [if_pos hgn] at hg; rcases hg with hg | ⟨_,hg⟩ <;> cases hg
           · simp only [if_neg hgn] at hg; exact hs.wid g id hg
         · obtain ⟨b,h1,h2⟩:=hs.ob id hid
           exact ⟨b,h1,bx.step (e:=e) hk (fun _ _ => rfl) (by have:=hs.n; simp only; omega) (fun q => hlt _ (by rw [q]; simp)) (fun q => by simp only; rw [hw' _ (by rw [q]; simp)]; exact q) (fun g j hg => ⟨by simp only; rw [hw' g (by rw [hg]; simp)]; exact hg,hlt g (by rw [hg]; simp)⟩) h2⟩
       · refine .sla _ _ _ ((hrow.mono hk).pr hne hsz (σ.at_push_new _) (by simp)) (by simp) fun n t' hn => ?_
         simp only [List.getElem?_concat_length,Option.some.injEq,Prod.mk.injEq] at hn
         obtain ⟨rfl,rfl⟩:=hn
         exact ⟨Nat.le_refl _,fun _ => .inr ⟨hne,σ.next,sz,news,rfl,by simp,σ.at_push_new _,hrow.len⟩⟩
   · -- an empty row
     rename_i tok t0
     split at h
     · rename_i n t' htk
       split at h
       · rename_i hc
         obtain ⟨rfl,rfl,rfl,hxne⟩:=hc
         simp only [Option.some.injEq,Prod.mk.injEq] at h
         obtain ⟨rfl,rfl⟩:=h
         obtain ⟨g,rfl,hlt,hl⟩:=zbmw hw
         obtain ⟨q3,q4⟩:=hl _ _ htk rfl
         have hset:∀ x,(tk.set tok x)[tok]? = some x:=fun x => by simp [hlt]
         have hsetn:∀ i x,i ≠ tok → (tk.set tok x)[i]? = tk[i]?:=fun i x hi => by rw [List.getElem?_set_ne (Ne.symm hi)]
         refine ⟨fun hx0 => absurd hx0 hxne,fun news hrow hne => ?_⟩
         have hgl:g < σ.next:=ah.lt_of_at (by rw [q4]; rfl)
         have hap:σ.apRow t0 g = some []:=by unfold ah.apRow; rw [q4]; simp
         refine ⟨rfl,rfl,⟨by simpa using hx2,by simpa using hx3⟩,.inr ?_⟩
         simp only [hap,mq]
         refine ⟨rfl,?_⟩
         have nx:(σ.set g (.cells t0 [] .ro)).next = σ.next:=rfl
         have oat:∀ k,k < σ.next → k ≠ g → ((σ.set g (.cells t0 [] .ro)).push (.cells t0 ([] ++ news) .app)).at k = σ.at k:=fun k hk hkg => by
          rw [ln (by rw [nx]; exact hk)]; exact σ.at_set_ne _ hkg
         have gat:((σ.set g (.cells t0 [] .ro)).push (.cells t0 ([] ++ news) .app)).at g = .cells t0 [] .ro:=by
          rw [ln (by rw [nx]; exact hgl)]; exact σ.at_set_same _ hgl
         have nat:((σ.set g (.cells t0 [] .ro)).push (.cells t0 ([] ++ news) .app)).at σ.next = .cells t0 news .app:=(σ.set g (.cells t0 [] .ro)).at_push_new _
         have hk:ye σ ((σ.set g (.cells t0 [] .ro)).push (.cells t0 ([] ++ news) .app)):=fun k t2 ds md hkk hm => by
          by_cases hkg:k = g
          · subst hkg; rw [q4] at hkk; cases hkk; exact ⟨.ro,by simp,gat⟩
          · exact ⟨md,hm,by rw [oat k (ah.lt_of_at (by rw [hkk]; rfl)) hkg]; exact hkk⟩
         have who':∀ k,e.who k ≠ .none → k ≠ g → (if k = σ.next then Own.tok tok else if k = g then .none else e.who k) = e.who k:=fun k hk hkg => by
          have:k ≠ σ.next:=by have:=hs.wlt k hk; omega
          rw [if_neg this,if_neg hkg]
         have ne:∀ k,e.who k ≠ .tok tok → k ≠ g:=fun k hk hkg => hk (by rw [hkg]; exact q3)
         have e0:(0:Nat) + xs.length = xs.length:=Nat.zero_add _
         rw [e0]
         refine hK ⟨e.b,e.n,fun k => if k = σ.next then .tok tok else if k = g then .none else e.who k⟩ _ _ ?_ ?_ ⟨hk,Nat.le_succ _,Nat.le_refl _,fun _ _ => rfl,fun id hid q _ => ?_⟩
         · refine hs.step ⟨hk,Nat.le_refl _,fun _ _ => rfl,fun i hi => by simpa using hi,fun i n' t2 hi hn => ?_⟩ (Nat.le_succ _) (fun k hkn hkm => ?_) hs.n rfl (fun k hkm => ?_) (fun k hkm => ?_) (fun k id hkm => ?_) (fun k hkn hkm => ?_) (fun id hid => ?_)
           · by_cases hit:i = tok
             · subst hit
               rw [hset] at hn
               simp only [Option.some.injEq,Prod.mk.injEq] at hn
               obtain ⟨rfl,rfl⟩:=hn
               have:0 < xs.length:=by cases xs with | nil => exact absurd rfl hne | cons => simp
               exact ⟨_,t',htk,.inr (by omega)⟩
             · rw [hsetn i _ hit] at hn
               refine ⟨n',t2,hn,.inl ⟨rfl,.inl rfl,fun k hkk => ?_⟩⟩
               have hkg:=ne k (by rw [hkk]; intro h; injection h with h; exact hit h)
               exact ⟨by simp only; rw [who' k (by rw [hkk]; simp) hkg]; exact hkk,oat k (hs.wlt k (by rw [hkk]; simp)) hkg⟩
           · have hkg:=ne k (fun h => hkm (by rw [h]; trivial))
             rw [t8 (by rw [nx]; exact hkn),zbis hkg]
           · by_cases h1:k = σ.next
             · rw [h1]; exact .inl hs.nx
             · by_cases h2:k = g
               · simp only [if_neg h1,if_pos h2] at hkm; exact hkm.elim
               · simp only [if_neg h1,if_neg h2] at hkm; exact hs.mine k hkm
           · by_cases h1:k = σ.next
             · rw [h1]; exact Nat.lt_succ_self _
             · by_cases h2:k = g
               · simp only [if_neg h1,if_pos h2] at hkm; exact absurd rfl hkm
               · simp only [if_neg h1,if_neg h2] at hkm; exact Nat.lt_succ_of_lt (hs.wlt k hkm)
           · by_cases h1:k = σ.next
             · simp only [if_pos h1] at hkm; rcases hkm with hkm | ⟨_,hkm⟩ <;> cases hkm
             · by_cases h2:k = g
               · simp only [if_neg h1,if_pos h2] at hkm; rcases hkm with hkm | ⟨_,hkm⟩ <;> cases hkm
               · simp only [if_neg h1,if_neg h2] at hkm; exact hs.wid k id hkm
           · have hkg:=ne k (fun h => hkm (by rw [h]; trivial))
             simp only
             rw [if_neg (Nat.ne_of_lt hkn),if_neg hkg]
           · obtain ⟨b,h1,h2⟩:=hs.ob id hid
             have hkg:=fun (q:e.who (e.b id) = .obj id) => ne (e.b id) (by rw [q]; simp)
             refine ⟨b,h1,bx.step (e:=e) hk (fun _ _ => rfl) (by have:=hs.n; simp only; omega) (fun q => oat _ (hs.wlt _ (by rw [q]; simp)) (hkg q)) (fun q => by simp only; rw [who' _ (by rw [q]; simp) (hkg q)]; exact q) (fun k j hkk => ?_) h2⟩
             have hkg:=ne k (by rw [hkk]; simp)
             exact ⟨by simp only; rw [who' k (by rw [hkk]; simp) hkg]; exact hkk,oat k (hs.wlt k (by rw [hkk]; simp)) hkg⟩
         · have hp2:=(hrow.mono hk).pr hne hsz nat (by simp)
           refine .sla _ _ _ hp2 (by simpa using hlt) fun n' t2 hn => ?_
           rw [hset] at hn
           simp only [Option.some.injEq,Prod.mk.injEq] at hn
           obtain ⟨rfl,rfl⟩:=hn
           exact ⟨Nat.le_refl _,fun _ => .inr ⟨hne,σ.next,1,news,rfl,by simp,nat,hrow.len⟩⟩
         · exact oat _ (hs.wlt _ (by rw [q]; simp)) (ne _ (by rw [q]; simp))
       · cases h
     · cases h
   · -- a token
     rename_i tok l
     split at h
     · rename_i n t' htk
       split at h
       · rename_i hc
         obtain ⟨rfl,ht,hcl,hb1,hb2⟩:=hc
         simp only [Option.some.injEq,Prod.mk.injEq] at h
         obtain ⟨rfl,rfl⟩:=h
         obtain ⟨hp,hlt,_,hlk⟩:=zbp0 hw htk
         have hlk:=hlk rfl
         have hset:∀ x,(tk.set tok x)[tok]? = some x:=fun x => by simp [hlt]
         have hsetn:∀ i x,i ≠ tok → (tk.set tok x)[i]? = tk[i]?:=fun i x hi => by rw [List.getElem?_set_ne (Ne.symm hi)]
         refine ⟨fun hx0 => ?_,fun news hrow hne => ?_⟩
         · subst hx0
           have fin:K w σ:=by
            refine hK e σ w ?_ ?_ (.refl _ _ _)
            · refine hs.step ⟨.refl _,Nat.le_refl _,fun _ _ => rfl,fun i hi => by simpa using hi,fun i n' t2 hi hn => ?_⟩ (Nat.le_refl _) (fun _ _ _ => rfl) hs.n rfl hs.mine hs.wlt hs.wid (fun _ _ _ => rfl) hs.ob
              by_cases hit:i = tok
              · subst hit
                rw [hset] at hn
                simp only [List.length_nil,Nat.add_zero,Option.some.injEq,Prod.mk.injEq] at hn
                obtain ⟨rfl,rfl⟩:=hn
                exact ⟨_,t',htk,.inl ⟨rfl,ht.symm,fun g hg => ⟨hg,rfl⟩⟩⟩
              · rw [hsetn i _ hit] at hn
                exact ⟨n',t2,hn,.inl ⟨rfl,.inl rfl,fun g hg => ⟨hg,rfl⟩⟩⟩
            · rw [List.append_nil]
              refine .sla _ _ _ hp (by simpa using hlt) fun n' t2 hn => ?_
              rw [hset] at hn
              simp only [List.length_nil,Nat.add_zero,Option.some.injEq,Prod.mk.injEq] at hn
              obtain ⟨rfl,rfl⟩:=hn
              refine ⟨Nat.le_refl _,fun _ => ?_⟩
              rcases hlk with hlk | ⟨q1,g,s,cs,q2,q3,q4,q5⟩
              · exact .inl hlk
              · have:t' = t:=ht.resolve_left fun h0 => q1 (List.eq_nil_of_length_eq_zero h0)
                exact .inr ⟨q1,g,s,cs,q2,q3,by rw [← this]; exact q4,q5⟩
           obtain ⟨a,s,rfl⟩:=zbta hp
           cases a with
           | none => exact fin
           | some a => exact fin
         · rcases hlk with ⟨rfl,rfl⟩ | ⟨q1,g,s,cs,rfl,q3,q4,q5⟩
           · -- the first ones
             refine ⟨⟨by simpa using hb1,by simpa using hb2⟩,.inr ?_⟩
             have hk:=ye.push σ (.cells t news .app)
             have hltg:∀ g,e.who g ≠ .none → (σ.push (.cells t news .app)).at g = σ.at g:=fun g hg => ln (hs.wlt g hg)
             have hw':∀ g,e.who g ≠ .none → (if g = σ.next then Own.tok tok else e.who g) = e.who g:=fun g hg => by
              have:g ≠ σ.next:=by have:=hs.wlt g hg; omega
              rw [if_neg this]
             refine hK ⟨e.b,e.n,fun g => if g = σ.next then .tok tok else e.who g⟩ _ _ ?_ ?_ ⟨hk,Nat.le_succ _,Nat.le_refl _,fun _ _ => rfl,fun id hid q _ => hltg _ (by rw [q]; simp)⟩
             · refine hs.step ⟨hk,Nat.le_refl _,fun _ _ => rfl,fun i hi => by simpa using hi,fun i n' t2 hi hn => ?_⟩ (Nat.le_succ _) (fun g hg _ => t8 hg) hs.n rfl (fun g hg => ?_) (fun g hg => ?_) (fun g id hg => ?_) (fun g hg _ => by simp only; rw [if_neg (Nat.ne_of_lt hg)]) (fun id hid => ?_)
               · by_cases hit:i = tok
                 · subst hit
                   rw [hset] at hn
                   simp only [List.length_nil,Nat.zero_add,Option.some.injEq,Prod.mk.injEq] at hn
                   obtain ⟨rfl,rfl⟩:=hn
                   have:0 < xs.length:=by cases xs with | nil => exact absurd rfl hne | cons => simp
                   exact ⟨_,t',htk,.inr (by simpa using this)⟩
                 · rw [hsetn i _ hit] at hn
                   exact ⟨n',t2,hn,.inl ⟨rfl,.inl rfl,fun g hg => ⟨by simp only; rw [hw' g (by rw [hg]; simp)]; exact hg,hltg g (by rw [hg]; simp)⟩⟩⟩
               · by_cases hgn:g = σ.next
                 · rw [hgn]; exact .inl hs.nx
                 · simp only [if_neg hgn] at hg; exact hs.mine g hg
               · by_cases hgn:g = σ.next
                 · rw [hgn]; exact Nat.lt_succ_self _
                 · simp only [if_neg hgn] at hg; exact Nat.lt_succ_of_lt (hs.wlt g hg)
               · by_cases hgn:g = σ.next
                 · simp only [if_pos hgn] at hg; rcases hg with hg | ⟨_,hg⟩ <;> cases hg
                 · simp only [if_neg hgn] at hg; exact hs.wid g id hg
               · obtain ⟨b,h1,h2⟩:=hs.ob id hid
                 exact ⟨b,h1,bx.step (e:=e) hk (fun _ _ => rfl) (by have:=hs.n; simp only; omega) (fun q => hltg _ (by rw [q]; simp)) (fun q => by simp only; rw [hw' _ (by rw [q]; simp)]; exact q) (fun g j hg => ⟨by simp only; rw [hw' g (by rw [hg]; simp)]; exact hg,hltg g (by rw [hg]; simp)⟩) h2⟩
             · refine .sla _ _ _ ((hrow.mono hk).pr hne hsz (σ.at_push_new _) (by simp)) (by simpa using hlt) fun n' t2 hn => ?_
               rw [hset] at hn
               simp only [List.length_nil,Nat.zero_add,Option.some.injEq,Prod.mk.injEq] at hn
               obtain ⟨rfl,rfl⟩:=hn
               exact ⟨Nat.le_refl _,fun _ => .inr ⟨hne,σ.next,sz,news,rfl,by simp,σ.at_push_new _,hrow.len⟩⟩
           · -- behind others
             have ht2:t' = t:=ht.resolve_left fun h0 => q1 (List.eq_nil_of_length_eq_zero h0)
             subst ht2
             have hcl':=zblz hcl
             obtain ⟨g',o',s',t2,cs',md,p0,p1,p2,p3,p4,p5,p6⟩:=qn q1 hp
             injection p6 with p6 _ p7
             injection p6 with p6
             injection p6 with p6 p8
             subst p6 p7 p8
             rw [q4] at p1
             injection p1 with p1 p1' p1''
             subst p1 p1' p1''
             have hss:s = sz:=by
              have h0:0 < l.length:=by cases l with | nil => exact absurd rfl q1 | cons => simp
              rw [← p4 0 h0]; exact hcl' 0 h0
             subst hss
             have hrl:Rows σ l s cs:=⟨q5,p4,fun i hi j hj => by have:=p5 i hi j hj; rwa [Nat.zero_add] at this⟩
             have hgl:g < σ.next:=ah.lt_of_at (by rw [q4]; rfl)
             have hap:σ.apRow t' g = some cs:=by unfold ah.apRow; rw [q4]; simp
             refine ⟨rfl,rfl,⟨hb1,hb2⟩,.inr ?_⟩
             simp only [hap,mq]
             refine ⟨q5.symm,?_⟩
             have nx:(σ.set g (.cells t' cs .ro)).next = σ.next:=rfl
             have oat:∀ k,k < σ.next → k ≠ g → ((σ.set g (.cells t' cs .ro)).push (.cells t' (cs ++ news) .app)).at k = σ.at k:=fun k hk hkg => by
              rw [ln (by rw [nx]; exact hk)]; exact σ.at_set_ne _ hkg
             have gat:((σ.set g (.cells t' cs .ro)).push (.cells t' (cs ++ news) .app)).at g = .cells t' cs .ro:=by
              rw [ln (by rw [nx]; exact hgl)]; exact σ.at_set_same _ hgl
             have nat:((σ.set g (.cells t' cs .ro)).push (.cells t' (cs ++ news) .app)).at σ.next = .cells t' (cs ++ news) .app:=(σ.set g (.cells t' cs .ro)).at_push_new _
             have hk:ye σ ((σ.set g (.cells t' cs .ro)).push (.cells t' (cs ++ news) .app)):=fun k t2 ds md hkk hm => by
              by_cases hkg:k = g
              · subst hkg; rw [q4] at hkk; cases hkk; exact ⟨.ro,by simp,gat⟩
              · exact ⟨md,hm,by rw [oat k (ah.lt_of_at (by rw [hkk]; rfl)) hkg]; exact hkk⟩
             have who':∀ k,e.who k ≠ .none → k ≠ g → (if k = σ.next then Own.tok tok else if k = g then .none else e.who k) = e.who k:=fun k hk hkg => by
              have:k ≠ σ.next:=by have:=hs.wlt k hk; omega
              rw [if_neg this,if_neg hkg]
             have ne:∀ k,e.who k ≠ .tok tok → k ≠ g:=fun k hk hkg => hk (by rw [hkg]; exact q3)
             refine hK ⟨e.b,e.n,fun k => if k = σ.next then .tok tok else if k = g then .none else e.who k⟩ _ _ ?_ ?_ ⟨hk,Nat.le_succ _,Nat.le_refl _,fun _ _ => rfl,fun id hid q _ => ?_⟩
             · refine hs.step ⟨hk,Nat.le_refl _,fun _ _ => rfl,fun i hi => by simpa using hi,fun i n' t2 hi hn => ?_⟩ (Nat.le_succ _) (fun k hkn hkm => ?_) hs.n rfl (fun k hkm => ?_) (fun k hkm => ?_) (fun k id hkm => ?_) (fun k hkn hkm => ?_) (fun id hid => ?_)
               · by_cases hit:i = tok
                 · subst hit
                   rw [hset] at hn
                   simp only [Option.some.injEq,Prod.mk.injEq] at hn
                   obtain ⟨rfl,rfl⟩:=hn
                   have:0 < xs.length:=by cases xs with | nil => exact absurd rfl hne | cons => simp
                   exact ⟨_,t',htk,.inr (by omega)⟩
                 · rw [hsetn i _ hit] at hn
                   refine ⟨n',t2,hn,.inl ⟨rfl,.inl rfl,fun k hkk => ?_⟩⟩
                   have hkg:=ne k (by rw [hkk]; intro h; injection h with h; exact hit h)
                   exact ⟨by simp only; rw [who' k (by rw [hkk]; simp) hkg]; exact hkk,oat k (hs.wlt k (by rw [hkk]; simp)) hkg⟩
               · have hkg:=ne k (fun h => hkm (by rw [h]; trivial))
                 rw [t8 (by rw [nx]; exact hkn),zbis hkg]
               · by_cases h1:k = σ.next
                 · rw [h1]; exact .inl hs.nx
                 · by_cases h2:k = g
                   · simp only [if_neg h1,if_pos h2] at hkm; exact hkm.elim
                   · simp only [if_neg h1,if_neg h2] at hkm; exact hs.mine k hkm
               · by_cases h1:k = σ.next
                 · rw [h1]; exact Nat.lt_succ_self _
                 · by_cases h2:k = g
                   · simp only [if_neg h1,if_pos h2] at hkm; exact absurd rfl hkm
                   · simp only [if_neg h1,if_neg h2] at hkm; exact Nat.lt_succ_of_lt (hs.wlt k hkm)
               · by_cases h1:k = σ.next
                 · simp only [if_pos h1] at hkm; rcases hkm with hkm | ⟨_,hkm⟩ <;> cases hkm
                 · by_cases h2:k = g
                   · simp only [if_neg h1,if_pos h2] at hkm; rcases hkm with hkm | ⟨_,hkm⟩ <;> cases hkm
                   · simp only [if_neg h1,if_neg h2] at hkm; exact hs.wid k id hkm
               · have hkg:=ne k (fun h => hkm (by rw [h]; trivial))
                 simp only
                 rw [if_neg (Nat.ne_of_lt hkn),if_neg hkg]
               · obtain ⟨b,h1,h2⟩:=hs.ob id hid
                 have hkg:=fun (q:e.who (e.b id) = .obj id) => ne (e.b id) (by rw [q]; simp)
                 refine ⟨b,h1,bx.step (e:=e) hk (fun _ _ => rfl) (by have:=hs.n; simp only; omega) (fun q => oat _ (hs.wlt _ (by rw [q]; simp)) (hkg q)) (fun q => by simp only; rw [who' _ (by rw [q]; simp) (hkg q)]; exact q) (fun k j hkk => ?_) h2⟩
                 have hkg:=ne k (by rw [hkk]; simp)
                 exact ⟨by simp only; rw [who' k (by rw [hkk]; simp) hkg]; exact hkk,oat k (hs.wlt k (by rw [hkk]; simp)) hkg⟩
             · have hne2:l ++ xs ≠ []:=by simp [q1]
               have hr2:=(hrl.mono hk).append (hrow.mono hk)
               have hp2:=hr2.pr hne2 hsz nat (by simp)
               rw [List.length_append] at hp2
               refine .sla _ _ _ hp2 (by simpa using hlt) fun n' t2 hn => ?_
               rw [hset] at hn
               simp only [Option.some.injEq,Prod.mk.injEq] at hn
               obtain ⟨rfl,rfl⟩:=hn
               refine ⟨by simp,fun _ => .inr ⟨hne2,σ.next,s,cs ++ news,by simp,by simp,nat,by rw [hr2.len]⟩⟩
             · exact oat _ (hs.wlt _ (by rw [q]; simp)) (ne _ (by rw [q]; simp))
       · cases h
     · cases h
   · cases h
 · cases h
end
end Go.Proofs.Ytgkkienmocpnbaa.Sh
namespace Go.Proofs.Ytgkkienmocpnbaa.Sh
open Go Go.RowKit
section
variable {P:Program} {B:Bs} {e e':Env} {fr:TF} {tk tk':TK} {τ τ':TH} {fr':Fr} {σ σ':ah}
theorem zb21 (id id':Nat):∀ (fr:TF) (t:Nat),lkp (zbbg id id' fr) t = ren id id' (lkp fr t)
 | [],t => rfl
 | (k,v) :: r,t => by
  show lkp ((k,ren id id' v) :: zbbg id id' r) t = ren id id' (lkp ((k,v) :: r) t)
  simp only [lkp]
  by_cases h:t = k
  · rw [if_pos h,if_pos h]
  · rw [if_neg h,if_neg h]; exact zb21 id id' r t
theorem CR.move {id id' j:Nat} {v:TV} {w:Value} (hk:ye σ σ') (hid:id < id') (hb:∀ i,i < id + 1 → e'.b i = e.b i) (hn:id' + 1 ≤ e'.n) (hc:∀ g,e.who g = .cell id j → e'.who g = .cell id' j ∧ σ'.at g = σ.at g) (h:CR σ e id j v w):CR σ' e' id' j v w:=by
 cases v with
 | slo t l =>
  refine ⟨h.1.mono hk,?_⟩
  rcases h.2 with h2 | ⟨hne,g,s,cs,q1,q2,q3,q4⟩
  · exact .inl h2
  · obtain ⟨r1,r2⟩:=hc g q2
    exact .inr ⟨hne,g,s,cs,q1,r1,by rw [r2]; exact q3,q4⟩
 | _ => exact ⟨h.1.cut hk hb (by omega) h.2.1,zbn9 (by omega) _ h.2.1,h.2.2⟩
def Own.move (id id':Nat):Own → Own
 | .obj i => if i = id then .obj id' else .obj i
 | .cell i j => if i = id then .cell id' j else .cell i j
 | o => o
theorem zbse {id id':Nat} {o:Own}:o.move id id' = .none ↔ o = .none:=by
 cases o <;> simp only [Own.move] <;> try split <;> simp
theorem zb26 {id id':Nat} {o:Own} {i:Nat}:o.move id id' = .tok i ↔ o = .tok i:=by
 cases o <;> simp only [Own.move] <;> try split <;> simp
theorem zb27 {id id' k:Nat} {o:Own} (h:o.move id id' = .obj k ∨ ∃ j,o.move id id' = .cell k j):k = id' ∨ (o = .obj k ∨ ∃ j,o = .cell k j):=by
 cases o with
 | obj i =>
  simp only [Own.move] at h
  split at h
  · rcases h with h | ⟨_,h⟩
    · injection h with h; exact .inl h.symm
    · cases h
  · exact .inr h
 | cell i j =>
  simp only [Own.move] at h
  split at h
  · rcases h with h | ⟨_,h⟩
    · cases h
    · injection h with h; exact .inl h.symm
  · exact .inr h
 | _ => rcases h with h | ⟨_,h⟩ <;> cases h
theorem zbsd {id id' lo:Nat} {o:Own} (h:lo ≤ id) (hm:(o.move id id').mine lo):o.mine lo:=by
 cases o with
 | obj i =>
  simp only [Own.move] at hm
  split at hm
  · rename_i hh; simp only [Own.mine,hh]; exact h
  · exact hm
 | cell i j =>
  simp only [Own.move] at hm
  split at hm
  · rename_i hh; simp only [Own.mine,hh]; exact h
  · exact hm
 | _ => exact hm
theorem zb24 {id id' lo:Nat} {o:Own} (h:lo ≤ id) (hm:¬ o.mine lo):o.move id id' = o:=by
 cases o with
 | obj i => simp only [Own.move]; rw [if_neg]; rintro rfl; exact hm h
 | cell i j => simp only [Own.move]; rw [if_neg]; rintro rfl; exact hm h
 | _ => rfl
theorem zb25 {id id' i:Nat} (h:i ≠ id):(Own.obj i).move id id' = .obj i:=by simp [Own.move,h]
theorem zbsc {id id' i j:Nat} (h:i ≠ id):(Own.cell i j).move id id' = .cell i j:=by simp [Own.move,h]
theorem St.lift (h:St B e fr tk τ fr' σ) {id:Nat} {b:Ob} (hat:τ.at id = some b) (hid:id < τ.next) (hlo:B.lo ≤ id) (hne:b.cs ≠ []) :
 ∃ e1,St B e1 (zbbg id τ.next fr) tk ((τ.put id ⟨b.t,[]⟩).push b) fr' σ ∧ Chg (fun _ => False) e σ e1 σ:=by
 obtain ⟨b',hb',ho⟩:=h.ob id hid
 rw [hat] at hb'; injection hb' with hb'; subst hb'
 obtain ⟨hwho,ds,h1,h2,h3⟩:=ho.live hne
 have hn:=h.n
 have eb:∀ i,i < e.n → (if i = e.n then e.b id else e.b i) = e.b i:=fun i hi => if_neg (by omega)
 have ebn:(if τ.next = e.n then e.b id else e.b τ.next) = e.b id:=if_pos hn.symm
 have base:St B ⟨fun i => if i = e.n then e.b id else e.b i,e.n + 1,fun g => (e.who g).move id e.n⟩ fr tk ((τ.put id ⟨b.t,[]⟩).push b) fr' σ:=by
  refine h.step ⟨.refl _,Nat.le_succ _,eb,fun _ h => h,fun i n t hi hn => ⟨n,t,hn,.inl ⟨rfl,.inl rfl,fun g hg => ⟨zb26.2 hg,rfl⟩⟩⟩⟩ (Nat.le_refl _) (fun _ _ _ => rfl) (by simp only; rw [va,ik,hn]) rfl
   (fun g hg => h.mine g (zbsd hlo hg)) (fun g hg => h.wlt g (fun hq => hg (zbse.2 hq))) (fun g k hg => ?_) (fun g _ hg => zb24 hlo hg) (fun k hk => ?_)
  · rcases zb27 hg with rfl | hg
    · exact Nat.lt_succ_self _
    · exact Nat.lt_succ_of_lt (h.wid g k hg)
  · rw [va,ik] at hk
    by_cases hkn:k = τ.next
    · subst hkn
      refine ⟨b,by rw [← ik (τ:=τ) (id:=id) (b:=⟨b.t,[]⟩)]; exact zbi9,.inr ⟨?_,ds,?_,h2,fun j hj => ⟨?_,(h3 j hj).2⟩⟩⟩
      · simp only; rw [ebn,hwho]; simp [Own.move,hn]
      · simp only; rw [ebn]; exact h1
      · exact (h3 j hj).1.move (.refl _) hid (fun i hi => eb i (by omega)) (by simp only; omega) fun g hg => ⟨by simp only [hg]; simp [Own.move,hn],rfl⟩
    · have hk':k < τ.next:=by omega
      by_cases hki:k = id
      · subst hki
        exact ⟨_,by rw [ue (by rw [ik]; exact hk')]; exact pv hk',.inl rfl⟩
      · obtain ⟨b2,q1,q2⟩:=h.ob k hk'
        refine ⟨b2,by rw [ue (by rw [ik]; exact hk'),uf hki]; exact q1,bx.step (e:=e) (.refl _) (fun i hi => eb i (by omega)) (by simp only; omega) (fun _ => rfl) (fun q => ?_) (fun g j hg => ⟨?_,rfl⟩) q2⟩
        · simp only; rw [q,zb25 hki]
        · simp only; rw [hg,zbsc hki]
 refine ⟨_,base.frame fun t => ?_,.refl _,Nat.le_refl _,Nat.le_succ _,eb,fun _ _ _ _ => rfl⟩
 rw [zb21]
 have ht:=base.fm t
 generalize lkp fr t = v at ht
 cases v with
 | ptr i off =>
  simp only [ren]
  split
  · rename_i hi
    subst hi
    obtain ⟨g1,g2⟩:=n6 ht
    rw [g2]
    have e1:=eb i (by rw [hn]; exact hid)
    simp only [e1]
    have:=TR.ptr (σ:=σ) (e:=⟨fun k => if k = e.n then e.b i else e.b k,e.n + 1,fun g => (e.who g).move i e.n⟩) (tk:=tk) τ.next off (by simp only; omega)
    simp only [ebn] at this
    exact this
  · exact ht
 | _ => exact ht
theorem zbrn {s:Nat}:∀ (xs:List TV) (i j:Nat),(∀ i,i < xs.length → (xs.getD i .undef).cells.length = s) → i < xs.length → j < s → (xs.flatMap TV.cells).getD (i * s + j) .undef = (xs.getD i .undef).cells.getD j .undef
 | [],i,j,_,hi,_ => by cases hi
 | v :: r,i,j,hc,hi,hj => by
  have hv:v.cells.length = s:=hc 0 (Nat.zero_lt_succ _)
  rw [List.flatMap_cons]
  cases i with
  | zero =>
   have:j < v.cells.length:=by omega
   simp [List.getD_eq_getElem?_getD,List.getElem?_append_left this]
  | succ i =>
   have e1:(i + 1) * s + j = v.cells.length + (i * s + j):=by rw [hv,Nat.add_mul]; omega
   rw [e1]
   have:=zbrn r i j (fun k hk => hc (k + 1) (Nat.succ_lt_succ hk)) (Nat.lt_of_succ_lt_succ hi) hj
   simp only [List.getD_eq_getElem?_getD,List.getElem?_append_right (Nat.le_add_right _ _),Nat.add_sub_cancel_left] at this ⊢
   exact this
theorem zbmg {s:Nat}:∀ (xs:List TV),(∀ i,i < xs.length → (xs.getD i .undef).cells.length = s) → (xs.flatMap TV.cells).length = xs.length * s
 | [],_ => by simp
 | v :: r,hc => by
  have hv:v.cells.length = s:=hc 0 (Nat.zero_lt_succ _)
  rw [List.flatMap_cons,List.length_append,hv,zbmg r (fun k hk => hc (k + 1) (Nat.succ_lt_succ hk)),List.length_cons,Nat.add_mul]
  omega
theorem zbca {v:TV} {w:Value} (h:PR σ v w) (hp:v.pureS = true) (id j:Nat):CR σ e id j v w:=by
 cases v with
 | slo t l => cases hp
 | sl l => exact ⟨.pr h,rfl,rfl⟩
 | func f a b =>
  cases h
  exact ⟨.pr (.func _),rfl,rfl⟩
 | _ => first | (cases hp; done) | exact ⟨.pr h,rfl,rfl⟩
theorem j7 {v:TV} (h:v.pure = true):∀ c ∈ v.cells,c.pureS = true:=by
 intro c hc
 cases v with
 | agg cs => exact List.all_eq_true.1 h c hc
 | _ =>
  simp only [TV.cells,List.mem_singleton] at hc
  subst hc
  exact h
theorem zbpm {s:Nat} {xs:List TV} {news:List Value} (hr:Rows σ xs s news) (hp:∀ v ∈ xs,v.pure = true) (id k:Nat):∀ j,j < news.length → CR σ e id (k + j) ((xs.flatMap TV.cells).getD j .undef) (news.getD j undef):=by
 intro j hj
 rw [hr.len] at hj
 have hs:0 < s:=by
  rcases Nat.eq_zero_or_pos s with h | h
  · subst h; simp at hj
  · exact h
 have hi:j / s < xs.length:=Nat.div_lt_of_lt_mul (by rw [Nat.mul_comm]; exact hj)
 have hm:j % s < s:=Nat.mod_lt _ hs
 have e1:j = j / s * s + j % s:=by rw [Nat.mul_comm]; exact (Nat.div_add_mod j s).symm
 have h1:=zbrn (s:=s) xs (j / s) (j % s) hr.c hi hm
 have h2:=hr.r (j / s) hi (j % s) hm
 rw [← e1] at h1 h2
 rw [h1]
 refine zbca h2 ?_ _ _
 have hmem:xs.getD (j / s) .undef ∈ xs:=by rw [gj (List.getElem?_eq_getElem hi)]; exact List.getElem_mem hi
 refine j7 (hp _ hmem) _ ?_
 have hlt:j % s < (xs.getD (j / s) .undef).cells.length:=by rw [hr.c _ hi]; exact hm
 rw [gj (List.getElem?_eq_getElem hlt)]
 exact List.getElem_mem hlt
theorem St.growT (h:St B e fr tk τ fr' σ) {id s:Nat} {t:TypeId} {b:Ob} {xs:List TV} {news:List Value} (hat:τ.at id = some b) (hid:id < τ.next) (hlo:B.lo ≤ id) (hne:b.cs ≠ []) (hbt:b.t = t)
 (hr:Rows σ xs s news) (hp:∀ v ∈ xs,v.pure = true) {k0:Nat} (hk0:k0 ≤ b.cs.length) :
 ∃ cs e1,σ.rwRow t (e.b id) = some cs ∧ cs.length = b.cs.length ∧ e1.b τ.next = σ.next ∧ τ.next < e1.n ∧
  St B e1 fr tk ((τ.put id ⟨t,[]⟩).push ⟨t,b.cs.take k0 ++ xs.flatMap TV.cells⟩) fr' ((σ.set (e.b id) .dead).push (.cells t (cs.take k0 ++ news) .rw)) ∧ Chg (· = id) e σ e1 ((σ.set (e.b id) .dead).push (.cells t (cs.take k0 ++ news) .rw)):=by
 obtain ⟨b',hb',ho⟩:=h.ob id hid
 rw [hat] at hb'; injection hb' with hb'; subst hb'
 obtain ⟨hwho,ds,h1,h2,h3⟩:=ho.live hne
 have hn:=h.n
 have ld:(ds.take k0).length = k0:=by rw [List.length_take]; omega
 have lb:(b.cs.take k0).length = k0:=by rw [List.length_take]; omega
 rw [hbt] at h1
 have hgl:e.b id < σ.next:=ah.lt_of_at (by rw [h1]; rfl)
 have eb:∀ i,i < e.n → (if i = e.n then σ.next else e.b i) = e.b i:=fun i hi => if_neg (by omega)
 have ebn:(if τ.next = e.n then σ.next else e.b τ.next) = σ.next:=if_pos hn.symm
 have nx:(σ.set (e.b id) .dead).next = σ.next:=rfl
 have oat:∀ k,k < σ.next → k ≠ e.b id → ((σ.set (e.b id) .dead).push (.cells t (ds.take k0 ++ news) .rw)).at k = σ.at k:=fun k hk hkg => by
  rw [ln (by rw [nx]; exact hk)]; exact σ.at_set_ne _ hkg
 have nat:((σ.set (e.b id) .dead).push (.cells t (ds.take k0 ++ news) .rw)).at σ.next = .cells t (ds.take k0 ++ news) .rw:=(σ.set (e.b id) .dead).at_push_new _
 have hk:ye σ ((σ.set (e.b id) .dead).push (.cells t (ds.take k0 ++ news) .rw)):=fun k t2 cs md hkk hm => by
  have:k ≠ e.b id:=by rintro rfl; rw [h1] at hkk; cases hkk; exact hm rfl
  exact ⟨md,hm,by rw [oat k (ah.lt_of_at (by rw [hkk]; rfl)) this]; exact hkk⟩
 have ne:∀ k,e.who k ≠ .obj id → k ≠ e.b id:=fun k hk hkg => hk (by rw [hkg]; exact hwho)
 have who':∀ k,e.who k ≠ .none → e.who k ≠ .obj id → (if k = σ.next then Own.obj e.n else if k = e.b id then .none else (e.who k).move id e.n) = (e.who k).move id e.n:=fun k hk hko => by
  have:k ≠ σ.next:=by have:=h.wlt k hk; omega
  rw [if_neg this,if_neg (ne k hko)]
 refine ⟨ds,⟨fun i => if i = e.n then σ.next else e.b i,e.n + 1,fun k => if k = σ.next then .obj e.n else if k = e.b id then .none else (e.who k).move id e.n⟩,by unfold ah.rwRow; rw [h1]; simp,h2,ebn,by simp only; omega,?_,hk,Nat.le_succ _,Nat.le_succ _,eb,fun k hkn q hne => ?_⟩
 · refine h.step ⟨hk,Nat.le_succ _,eb,fun _ h => h,fun i n t hi hn => ⟨n,t,hn,.inl ⟨rfl,.inl rfl,fun g hg => ⟨?_,?_⟩⟩⟩⟩ (Nat.le_succ _) (fun k hkn hkm => ?_) (by simp only; rw [va,ik,hn]) rfl (fun k hkm => ?_) (fun k hkm => ?_) (fun k i hkm => ?_) (fun k hkn hkm => ?_) (fun k hkn => ?_)
   · simp only; rw [who' g (by rw [hg]; simp) (by rw [hg]; simp)]; exact zb26.2 hg
   · exact oat g (h.wlt g (by rw [hg]; simp)) (ne g (by rw [hg]; simp))
   · have hkg:=ne k (fun hh => hkm (by rw [hh]; exact hlo))
     rw [t8 (by rw [nx]; exact hkn),zbis hkg]
   · by_cases h1:k = σ.next
     · rw [h1]; exact .inl h.nx
     · by_cases h2:k = e.b id
       · simp only [if_neg h1,if_pos h2] at hkm; exact hkm.elim
       · simp only [if_neg h1,if_neg h2] at hkm; exact h.mine k (zbsd hlo hkm)
   · by_cases h1:k = σ.next
     · rw [h1]; exact Nat.lt_succ_self _
     · by_cases h2:k = e.b id
       · rw [h2]; exact Nat.lt_succ_of_lt hgl
       · simp only [if_neg h1,if_neg h2] at hkm; exact Nat.lt_succ_of_lt (h.wlt k (fun hq => hkm (zbse.2 hq)))
   · by_cases h1:k = σ.next
     · simp only [if_pos h1] at hkm
       rcases hkm with hkm | ⟨_,hkm⟩
       · injection hkm with hkm; rw [← hkm]; exact Nat.lt_succ_self _
       · cases hkm
     · by_cases h2:k = e.b id
       · simp only [if_neg h1,if_pos h2] at hkm; rcases hkm with hkm | ⟨_,hkm⟩ <;> cases hkm
       · simp only [if_neg h1,if_neg h2] at hkm
         rcases zb27 hkm with rfl | hkm
         · exact Nat.lt_succ_self _
         · exact Nat.lt_succ_of_lt (h.wid k i hkm)
   · have hkg:=ne k (fun hh => hkm (by rw [hh]; exact hlo))
     simp only
     rw [if_neg (Nat.ne_of_lt hkn),if_neg hkg]; exact zb24 hlo hkm
   · rw [va,ik] at hkn
     by_cases hkn2:k = τ.next
     · subst hkn2
       refine ⟨_,by rw [← ik (τ:=τ) (id:=id) (b:=⟨t,[]⟩)]; exact zbi9,.inr ⟨?_,ds.take k0 ++ news,?_,?_,fun j hj => ?_⟩⟩
       · simp only; rw [ebn,if_pos rfl,hn]
       · simp only; rw [ebn]; exact nat
       · rw [List.length_append,List.length_append,ld,lb,hr.len,zbmg xs hr.c]
       · have key:CR ((σ.set (e.b id) .dead).push (.cells t (ds.take k0 ++ news) .rw)) ⟨fun i => if i = e.n then σ.next else e.b i,e.n + 1,fun k => if k = σ.next then .obj e.n else if k = e.b id then .none else (e.who k).move id e.n⟩ τ.next j
          ((b.cs.take k0 ++ xs.flatMap TV.cells).getD j .undef) ((ds.take k0 ++ news).getD j undef):=by
          by_cases hlt:j < k0
          · have e1:(b.cs.take k0 ++ xs.flatMap TV.cells).getD j .undef = b.cs.getD j .undef:=by rw [List.getD_eq_getElem?_getD,List.getD_eq_getElem?_getD,List.getElem?_append_left (by rw [lb]; exact hlt),List.getElem?_take_of_lt hlt]
            have e2:(ds.take k0 ++ news).getD j undef = ds.getD j undef:=by rw [List.getD_eq_getElem?_getD,List.getD_eq_getElem?_getD,List.getElem?_append_left (by rw [ld]; exact hlt),List.getElem?_take_of_lt hlt]
            rw [e1,e2]
            refine (h3 j (by omega)).1.move hk hid (fun i hi => eb i (by omega)) (by simp only; omega) fun g hg => ⟨?_,?_⟩
            · simp only; rw [who' g (by rw [hg]; simp) (by rw [hg]; simp),hg]; simp [Own.move,hn]
            · exact oat g (h.wlt g (by rw [hg]; simp)) (ne g (by rw [hg]; simp))
          · have e1:(b.cs.take k0 ++ xs.flatMap TV.cells).getD j .undef = (xs.flatMap TV.cells).getD (j - k0) .undef:=by rw [List.getD_eq_getElem?_getD,List.getD_eq_getElem?_getD,List.getElem?_append_right (by rw [lb]; omega),lb]
            have e2:(ds.take k0 ++ news).getD j undef = news.getD (j - k0) undef:=by rw [List.getD_eq_getElem?_getD,List.getD_eq_getElem?_getD,List.getElem?_append_right (by rw [ld]; omega),ld]
            rw [e1,e2]
            have:=zbpm (e:=⟨fun i => if i = e.n then σ.next else e.b i,e.n + 1,fun k => if k = σ.next then .obj e.n else if k = e.b id then .none else (e.who k).move id e.n⟩) (hr.mono hk) hp τ.next k0 (j - k0) (by rw [List.length_append,ld] at hj; omega)
            rwa [show k0 + (j - k0) = j by omega] at this
         exact ⟨key,zbi8 key⟩
     · have hk':k < τ.next:=by omega
       by_cases hki:k = id
       · subst hki
         exact ⟨_,by rw [ue (by rw [ik]; exact hk')]; exact pv hk',.inl rfl⟩
       · obtain ⟨b2,q1,q2⟩:=h.ob k hk'
         have hko:e.who (e.b k) = .obj k → e.who (e.b k) ≠ .obj id:=fun q hq => by rw [q] at hq; injection hq with hq; exact hki hq
         refine ⟨b2,by rw [ue (by rw [ik]; exact hk'),uf hki]; exact q1,bx.step (e:=e) hk (fun i hi => eb i (by omega)) (by simp only; omega) (fun q => ?_) (fun q => ?_) (fun g j hg => ⟨?_,?_⟩) q2⟩
         · exact oat _ (h.wlt _ (by rw [q]; simp)) (ne _ (hko q))
         · simp only; rw [who' _ (by rw [q]; simp) (hko q),q,zb25 hki]
         · simp only; rw [who' g (by rw [hg]; simp) (by rw [hg]; simp),hg,zbsc hki]
         · exact oat g (h.wlt g (by rw [hg]; simp)) (ne g (by rw [hg]; simp))
 · refine oat _ (h.wlt _ (by rw [q]; simp)) (ne _ ?_)
   rw [q]; intro hq; injection hq with hq; exact hne hq
theorem St.grow (h:St B e fr tk τ fr' σ) {id s:Nat} {t:TypeId} {b:Ob} {xs:List TV} {news:List Value} (hat:τ.at id = some b) (hid:id < τ.next) (hlo:B.lo ≤ id) (hne:b.cs ≠ []) (hbt:b.t = t)
 (hr:Rows σ xs s news) (hp:∀ v ∈ xs,v.pure = true) :
 ∃ cs e1,σ.rwRow t (e.b id) = some cs ∧ cs.length = b.cs.length ∧ e1.b τ.next = σ.next ∧ τ.next < e1.n ∧
  St B e1 fr tk ((τ.put id ⟨t,[]⟩).push ⟨t,b.cs ++ xs.flatMap TV.cells⟩) fr' ((σ.set (e.b id) .dead).push (.cells t (cs ++ news) .rw)) ∧ Chg (· = id) e σ e1 ((σ.set (e.b id) .dead).push (.cells t (cs ++ news) .rw)):=by
 obtain ⟨cs,e1,g1,g2,g3,g4,g5,g6⟩:=h.growT hat hid hlo hne hbt hr hp (k0:=b.cs.length) (Nat.le_refl _)
 rw [List.take_of_length_le (Nat.le_refl _),List.take_of_length_le (Nat.le_of_eq g2)] at g5
 rw [List.take_of_length_le (Nat.le_of_eq g2)] at g6
 exact ⟨cs,e1,g1,g2,g3,g4,g5,g6⟩
end
end Go.Proofs.Ytgkkienmocpnbaa.Sh
