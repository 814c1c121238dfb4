import Derived.Test.YtgkkienmocpnbaaM8
set_option linter.unusedVariables false
set_option linter.unusedSimpArgs false
/- The tree level: instructions, regions. -/
namespace Go.Proofs.Ytgkkienmocpnbaa.Sh
open Go Go.RowKit
section
variable {P:Program} {B:Bs} {e e':Env} {fr:TF} {tk tk':TK} {τ τ':TH} {fr':Fr} {σ σ':ah}
theorem zbiy (hs:St B e fr tk τ fr' σ) (args:List Operand):(args.map fun a => (tO fr a).canT).length = (args.map (evO fr')).length ∧
 ∀ i,i < (args.map fun a => (tO fr a).canT).length → TR σ e tk ((args.map fun a => (tO fr a).canT).getD i .undef) ((args.map (evO fr')).getD i undef):=by
 refine ⟨by simp,fun i hi => ?_⟩
 have hi':i < args.length:=by simpa using hi
 simp only [List.getD_eq_getElem?_getD,List.getElem?_map,List.getElem?_eq_getElem hi',Option.map_some,Option.getD_some]
 exact zbpp (hs.op _)
theorem zbag {a b:List TV} {c d:List Value} (h1:a.length = c.length) (h2:b.length = d.length) (g1:∀ i,i < a.length → TR σ e tk (a.getD i .undef) (c.getD i undef)) (g2:∀ i,i < b.length → TR σ e tk (b.getD i .undef) (d.getD i undef)) :
 (a ++ b).length = (c ++ d).length ∧ ∀ i,i < (a ++ b).length → TR σ e tk ((a ++ b).getD i .undef) ((c ++ d).getD i undef):=by
 refine ⟨by simp [h1,h2],fun i hi => ?_⟩
 by_cases hlt:i < a.length
 · have e1:(a ++ b).getD i .undef = a.getD i .undef:=by simp [List.getD_eq_getElem?_getD,List.getElem?_append_left hlt]
   have e2:(c ++ d).getD i undef = c.getD i undef:=by simp [List.getD_eq_getElem?_getD,List.getElem?_append_left (show i < c.length by omega)]
   rw [e1,e2]; exact g1 i hlt
 · have e1:(a ++ b).getD i .undef = b.getD (i - a.length) .undef:=by simp [List.getD_eq_getElem?_getD,List.getElem?_append_right (show a.length ≤ i by omega)]
   have e2:(c ++ d).getD i undef = d.getD (i - a.length) undef:=by simp [List.getD_eq_getElem?_getD,List.getElem?_append_right (show c.length ≤ i by omega),h1]
   rw [e1,e2]; exact g2 _ (by simp at hi; omega)
theorem zblu (hs:St B e fr tk τ fr' σ) {x:Operand} {f:FuncId} {a b:List TV} (hx:tO fr x = .func f a b) (args:List Operand):∃ c d,evO fr' x = .func (.func f) c d ∧
 (a ++ (args.map fun a => (tO fr a).canT) ++ b).length = (c.toList ++ args.map (evO fr') ++ d.toList).length ∧
 ∀ i,i < (a ++ (args.map fun a => (tO fr a).canT) ++ b).length → TR σ e tk ((a ++ (args.map fun a => (tO fr a).canT) ++ b).getD i .undef) ((c.toList ++ args.map (evO fr') ++ d.toList).getD i undef):=by
 have h:=hs.op x
 rw [hx] at h
 obtain ⟨c,d,e1,h1,h2,h3,h4⟩:=zbiw h
 obtain ⟨a1,a2⟩:=zbiy hs args
 obtain ⟨b1,b2⟩:=zbag (a:=a) (c:=c.toList) (by simpa using h1) a1 (fun i hi => by rw [ay]; exact h3 i hi) a2
 obtain ⟨c1,c2⟩:=zbag (b:=b) (d:=d.toList) b1 (by simpa using h2) b2 (fun i hi => by rw [ay]; exact h4 i hi)
 exact ⟨c,d,e1,c1,c2⟩
theorem zbaf (hs:St B e fr tk τ fr' σ) (args:List Operand):∀ i,i < (args.map (tO fr)).length → TR σ e tk ((args.map (tO fr)).getD i .undef) ((args.map (evO fr')).getD i undef):=fun i hi => by
 have hi':i < args.length:=by simpa using hi
 have e1:(args.map (tO fr)).getD i .undef = tO fr args[i]:=by simp [List.getD_eq_getElem?_getD,hi']
 have e2:(args.map (evO fr')).getD i undef = evO fr' args[i]:=by simp [List.getD_eq_getElem?_getD,hi']
 rw [e1,e2]
 exact hs.op _
theorem zb5n (hs:St B e fr tk τ fr' σ) (a:Operand):∃ e1,St B e1 (zbjb a fr τ).1 tk (zbjb a fr τ).2 fr' σ:=by
 unfold zbjb
 split
 · rename_i id o hz
   have hx:=hs.op a
   rw [hz] at hx
   obtain ⟨hid,_⟩:=n6 hx
   split
   · rename_i b hb
     split
     · rename_i hc
       obtain ⟨e1,h1,_⟩:=hs.lift hb (by rw [← hs.n]; exact hid) (by rw [← hs.lo]; exact hc.1) hc.2
       exact ⟨e1,h1⟩
     · exact ⟨e,hs⟩
   · exact ⟨e,hs⟩
 · exact ⟨e,hs⟩
theorem zajp (hs:St B e fr tk τ fr' σ) (i:I) (m:Nat):∃ e1,St B e1 (ky i m fr τ).1 tk (ky i m fr τ).2 fr' σ:=by
 unfold ky
 split
 · split
   · exact zb5n hs _
   · exact zb5n hs _
   · exact ⟨e,hs⟩
 · exact ⟨e,hs⟩
theorem zbgo {cf:CF} (hcf:ei P cf) {x:ap} {v:TV} (h:ca cf false x fr tk τ = some (v,tk',τ')) (hs:St B e fr tk τ fr' σ) (K:Value → ah → Prop)
 (hK:∀ e' σ' w,St B e' fr tk' τ' fr' σ' → TR σ' e' tk' v w → K w σ'):evI P x.x.i K fr' σ:=by
 obtain ⟨⟨d,i,g⟩,m⟩:=x
 cases i with
 | call f args =>
  simp only [ca] at h
  split at h
  · obtain ⟨rfl,rfl,c⟩:=zamt hcf h hs (ws:=args.map (evO fr')) (by simp) (zbaf hs args)
    exact c.mono fun w σ' ⟨e1,ht⟩ => by subst e1; exact hK e _ w hs ht
  · obtain ⟨a1,a2⟩:=zbiy hs args
    exact vt hcf h hs a1 a2 K fun e' σ' w q1 q2 _ _ => hK e' σ' w q1 q2
 | callW f args =>
  obtain ⟨a1,a2⟩:=zbiy hs args
  exact vt hcf h hs a1 a2 K fun e' σ' w q1 q2 _ _ => hK e' σ' w q1 q2
 | callv x args =>
  simp only [ca] at h
  split at h
  · rename_i f a b hx
    obtain ⟨c,d,e1,a1,a2⟩:=zblu hs hx args
    simp only [evI,e1,zbcg]
    exact vt hcf h hs a1 a2 K fun e' σ' w q1 q2 _ _ => hK e' σ' w q1 q2
  · cases h
 | callvW x args =>
  simp only [ca] at h
  split at h
  · rename_i f a b hx
    obtain ⟨c,d,e1,a1,a2⟩:=zblu hs hx args
    simp only [evI,e1,zbcg]
    exact vt hcf h hs a1 a2 K fun e' σ' w q1 q2 _ _ => hK e' σ' w q1 q2
  · cases h
 | _ => simp only [ca] at h; exact zbdu (P:=P) (d:=d) (g:=g) (m:=m) h hs K fun e' σ' w q1 q2 _ => hK e' σ' w q1 q2
theorem zbby {cf:CF} (hcf:ei P cf) {x:ap} {v:TV} (h:ca cf true x fr tk τ = some (v,tk',τ')) (hs:St B e fr tk τ fr' σ) (K:Value → ah → Prop)
 (hK:∀ e' σ' w,St B e' fr tk' τ' fr' σ' → TR σ' e' tk' v w → Chg (sd (p9 x fr)) e σ e' σ' → K w σ'):cw P x.x.i K fr' σ:=by
 obtain ⟨⟨d,i,g⟩,m⟩:=x
 have c0:∀ {S S':Nat → Prop} {e':Env} {σ':ah},(∀ i,S i → S' i) → Chg S e σ e' σ' → Chg S' e σ e' σ':=fun hS hc => ⟨hc.keep,hc.nx,hc.n,hc.b,fun id hid q hn => hc.ob id hid q (fun h => hn (hS id h))⟩
 cases i with
 | call f args =>
  simp only [ca] at h
  split at h
  · obtain ⟨rfl,rfl,c⟩:=zamt hcf h hs (ws:=args.map (evO fr')) (by simp) (zbaf hs args)
    exact c.mono fun w σ' ⟨e1,ht⟩ => by subst e1; exact ⟨.refl _,hK e _ w hs ht (.refl _ _ _)⟩
  · obtain ⟨a1,a2⟩:=zbiy hs args
    exact vt hcf h hs a1 a2 _ fun e' σ' w q1 q2 q3 q4 => ⟨q4 rfl,hK e' σ' w q1 q2 (c0 (fun _ h => by cases h) q3)⟩
 | callW f args =>
  obtain ⟨a1,a2⟩:=zbiy hs args
  exact vt hcf h hs a1 a2 K fun e' σ' w q1 q2 q3 _ => hK e' σ' w q1 q2 (c0 (fun _ _ => trivial) q3)
 | callv x args =>
  simp only [ca] at h
  split at h
  · rename_i f a b hx
    obtain ⟨c,d,e1,a1,a2⟩:=zblu hs hx args
    simp only [cw,e1,zbcg]
    exact vt hcf h hs a1 a2 _ fun e' σ' w q1 q2 q3 q4 => ⟨q4 rfl,hK e' σ' w q1 q2 (c0 (fun _ h => by cases h) q3)⟩
  · cases h
 | callvW x args =>
  simp only [ca] at h
  split at h
  · rename_i f a b hx
    obtain ⟨c,d,e1,a1,a2⟩:=zblu hs hx args
    simp only [cw,evI,e1,zbcg]
    exact vt hcf h hs a1 a2 K fun e' σ' w q1 q2 q3 _ => hK e' σ' w q1 q2 (c0 (fun _ _ => trivial) q3)
  · cases h
 | _ => simp only [ca] at h; exact zbdu (P:=P) (d:=d) (g:=g) (m:=m) h hs K fun e' σ' w q1 q2 q3 => hK e' σ' w q1 q2 q3
theorem zaaz:TR σ e tk (.tup []) undef:=.tup [] #[] rfl fun i hi => by simp at hi
theorem zbot {w:Value} (h:TR σ e tk (.tup []) w):w = undef:=by
 obtain ⟨c,rfl,h1,_⟩:=zaa0 h
 have:c = #[]:=Array.eq_empty_of_size_eq_zero h1.symm
 rw [this]; rfl
theorem zbgm {cf:CF} (hcf:ei P cf) {x:ap} {fr2:TF} (h:ey cf false x fr tk τ = some (fr2,tk',τ')) (hs:St B e fr tk τ fr' σ) (K:Fr → ah → Prop)
 (hK:∀ e' fr2' σ',St B e' fr2 tk' τ' fr2' σ' → K fr2' σ'):zbg9 P x.x K fr' σ:=by
 have go:tGo cf false x fr tk τ = some (fr2,tk',τ') → evI P x.x.i (fun v σ' => K (fr'.put x.x.dst v) σ') fr' σ:=fun h => by
  obtain ⟨⟨v,tk2,τ2⟩,hv,he⟩:=Option.map_eq_some_iff.1 h
  simp only [Prod.mk.injEq] at he
  obtain ⟨rfl,rfl,rfl⟩:=he
  obtain ⟨e1,h1⟩:=zajp hs x.x.i x.m
  exact zbgo hcf hv h1 _ fun e' σ' w q1 q2 => hK e' _ σ' (q1.put _ q2)
 have skip:some (dh fr x.x.dst (.tup []),tk,τ) = some (fr2,tk',τ') → K (fr'.put x.x.dst undef) σ:=fun h => by
  simp only [Option.some.injEq,Prod.mk.injEq] at h
  obtain ⟨rfl,rfl,rfl⟩:=h
  exact hK e _ σ (hs.put _ zaaz)
 unfold ey at h
 unfold zbg9
 split at h
 · rename_i hg
   rw [hg]
   exact go h
 · rename_i t b hg
   rw [hg]
   have ht:=hs.fm t
   split at h
   · rename_i c hc
     rw [hc] at ht
     have ht:=np ht
     split at h
     · rename_i hcb
       exact ⟨fun _ => go h,fun hn => absurd (by rw [ht,hcb]) hn⟩
     · rename_i hcb
       exact ⟨fun hn => absurd (by rw [ht] at hn; injection hn) hcb,fun _ => skip h⟩
   · rename_i hc
     rw [hc] at ht
     have ht:=zbot ht
     exact ⟨fun hn => (by rw [ht] at hn; cases hn),fun _ => skip h⟩
   · cases h
theorem zakt {cf:CF} (hcf:ei P cf):∀ (l:List ap) {e:Env} {fr fr2:TF} {tk tk':TK} {τ τ':TH} {fr':Fr} {σ:ah},r9 cf l fr tk τ = some (fr2,tk',τ') → St B e fr tk τ fr' σ → ∀ (K:Fr → ah → Prop),
 (∀ e' fr2' σ',St B e' fr2 tk' τ' fr2' σ' → K fr2' σ') → evL P (l.map ap.x) K fr' σ
 | [],e,fr,fr2,tk,tk',τ,τ',fr',σ,h,hs,K,hK => by
  simp only [r9,Option.some.injEq,Prod.mk.injEq] at h
  obtain ⟨rfl,rfl,rfl⟩:=h
  exact hK e fr' σ hs
 | x :: r,e,fr,fr2,tk,tk',τ,τ',fr',σ,h,hs,K,hK => by
  simp only [r9] at h
  split at h
  · rename_i fr1 tk1 τ1 h1
    exact zbgm hcf h1 hs _ fun e' fr2' σ' q => zakt hcf r h q K hK
  · cases h
theorem oc {fr':Fr} {d:Option Nat} {v:Value} {y:Ins} (h:kf d y.dsts = true):pm fr' (fr'.put d v) y.i.ops ∧ (∀ t b,y.guard = some (t,b) → (fr'.put d v) t = fr' t) ∧ ∀ k,y.dst = some k → (fr'.put d v) k = fr' k:=by
 obtain ⟨h1,h2⟩:=zbwp (show kf d (y.looks ++ y.dst.toList) = true from h)
 refine ⟨zbi6 h1,fun t b hg => zbh3 h1 hg,fun k hk => zblq h2 (by rw [hk]; simp)⟩
theorem zbb9 {i:I} {wh:Option Nat} {Q:Value → Prop} {fr2':Fr} (hs:St B e fr tk τ fr' σ) (hw:zbbn i fr = some wh) (h:evI P i (fun u _ => Q u) fr' σ) (ha:pm fr' fr2' i.ops) (hk:ye σ σ')
 (hb:∀ id,wh = some id → id < e.n → σ'.at (e.b id) = σ.at (e.b id)):evI P i (fun u _ => Q u) fr2' σ':=by
 cases i with
 | load1 x =>
  have ex:evO fr2' x = evO fr' x:=ha x (by simp [I.ops])
  simp only [evI,ex] at h ⊢
  have hx:=hs.op x
  simp only [zbbn] at hw
  split at hw
  · rename_i cs off ht
    rw [ht] at hx
    obtain ⟨g,o,t,ws,md,h1,h2,h3,h4,e1⟩:=zbc1 hx
    obtain ⟨m2,g1,g2⟩:=hk g t ws md h1 h2
    rw [e1] at h ⊢
    simp only [a8,ah.load,h1,g2] at h ⊢
    exact h
  · rename_i id off ht
    injection hw with hw
    rw [ht] at hx
    obtain ⟨hid,e1⟩:=n6 hx
    rw [e1] at h ⊢
    simp only [a8,ah.load,hb id hw.symm hid] at h ⊢
    exact h
  · cases hw
 | loadN n x =>
  have ex:evO fr2' x = evO fr' x:=ha x (by simp [I.ops])
  simp only [evI,ex] at h ⊢
  have hx:=hs.op x
  simp only [zbbn] at hw
  split at hw
  · rename_i cs off ht
    rw [ht] at hx
    obtain ⟨g,o,t,ws,md,h1,h2,h3,h4,e1⟩:=zbc1 hx
    obtain ⟨m2,g1,g2⟩:=hk g t ws md h1 h2
    rw [e1] at h ⊢
    simp only [a8,ah.row,h1,g2] at h ⊢
    exact h
  · rename_i id off ht
    injection hw with hw
    rw [ht] at hx
    obtain ⟨hid,e1⟩:=n6 hx
    rw [e1] at h ⊢
    simp only [a8,ah.row,hb id hw.symm hid] at h ⊢
    exact h
  · cases hw
 | toStr x =>
  have ex:evO fr2' x = evO fr' x:=ha x (by simp [I.ops])
  simp only [evI,ex] at h ⊢
  have hx:=hs.op x
  have go:∀ l,(tO fr x).list = some l → eu (evO fr' x) (Q (.string ⟨#[]⟩)) (fun a n s => (n = 0 → Q (.string ⟨#[]⟩)) ∧ (n ≠ 0 → mq ((σ'.row a.block a.off n).bind ab) fun bs => Q (.string ⟨bs.toArray⟩))):=fun l hl => by
   have hp:=sc hl hx
   generalize evO fr' x = q at hp h
   cases hp with
   | slN => exact h
   | slE a s => exact ⟨h.1,fun hn => absurd rfl hn⟩
   | sl _ g o s t cs md q1 q2 q3 q4 q5 q6 q7 =>
    obtain ⟨m2,g1,g2⟩:=hk g t cs md q3 q4
    simp only [eu,ah.row,q3,g2] at h ⊢
    exact h
  simp only [zbbn] at hw
  split at hw
  · rename_i l hl; exact go l (by rw [hl]; rfl)
  · rename_i k l hl; exact go l (by rw [hl]; rfl)
  · cases hw
 | _ => cases hw
theorem zbb2 {x:ap} {y:Ins} {v:Value} (hs:St B e fr tk τ fr' σ) (ht:yj x y fr τ = true) (h:kq P y fr' σ) (hc:Chg (sd (p9 x fr)) e σ e' σ'):kq P y (fr'.put x.x.dst v) σ':=by
 unfold yj at ht
 simp only [Bool.and_eq_true] at ht
 obtain ⟨ht1,ht2⟩:=ht
 obtain ⟨a1,a2,a3⟩:=oc (fr':=fr') (v:=v) ht1
 intro hg
 have h1:=h ((za9h a2).1 hg)
 have e1:(fun (u:Value) (_:ah) => ∀ d,y.dst = some d → u = (fr'.put x.x.dst v) d) = fun u _ => ∀ d,y.dst = some d → u = fr' d:=by
  funext u _
  exact propext ⟨fun h d hd => by rw [← a3 d hd]; exact h d hd,fun h d hd => by rw [a3 d hd]; exact h d hd⟩
 rw [e1]
 cases hw:zbbn y.i fr with
 | none => rw [hw] at ht2; cases ht2
 | some wh =>
  refine zbb9 (Q:=fun u => ∀ d,y.dst = some d → u = fr' d) hs hw h1 a1 hc.keep fun id hid hlt => ?_
  subst hid
  rw [hw] at ht2
  simp only [Bool.and_eq_true] at ht2
  obtain ⟨ht0,ht2⟩:=ht2
  have hq:e.who (e.b id) = .obj id:=by
   obtain ⟨b,hb,ho⟩:=hs.ob id (by rw [← hs.n]; exact hlt)
   rw [hb] at ht0
   exact (ho.live (fun h0 => by simp only [h0] at ht0; cases ht0)).1
  refine hc.ob id hlt hq ?_
  cases htt:p9 x fr with
  | none => simp [sd]
  | some o =>
   rw [htt] at ht2
   cases o with
   | none => cases ht2
   | some k => simp only [sd]; simpa using ht2
mutual
theorem zbt5:∀ (v v':TV) {w w':Value},v.same v' = true → TR σ e tk v w → TR σ e tk v' w' → w = w'
 | .int k n,.int j m,w,w',h,h1,h2 => by
  simp only [TV.same,Bool.and_eq_true,decide_eq_true_iff] at h
  rw [jv h1,jv h2,h.1,h.2]
 | .bool a,.bool b,w,w',h,h1,h2 => by
  simp only [TV.same,beq_iff_eq] at h
  rw [np h1,np h2,h]
 | .str a,.str b,w,w',h,h1,h2 => by
  simp only [TV.same,decide_eq_true_iff] at h
  rw [up h1,up h2,h]
 | .nilP,.nilP,w,w',h,h1,h2 => by rw [zblo h1,zblo h2]
 | .nilF,.nilF,w,w',h,h1,h2 => by rw [zbpt h1,zbpt h2]
 | .ptr i o,.ptr j p,w,w',h,h1,h2 => by
  simp only [TV.same,Bool.and_eq_true,beq_iff_eq] at h
  rw [(n6 h1).2,(n6 h2).2,h.1,h.2]
 | .func f a b,.func g c d,w,w',h,h1,h2 => by
  simp only [TV.same,Bool.and_eq_true,decide_eq_true_iff] at h
  obtain ⟨rfl,ha,hb⟩:=h
  obtain ⟨c1,d1,rfl,e1,e2,q1,q2⟩:=zbiw h1
  obtain ⟨c2,d2,rfl,f1,f2,r1,r2⟩:=zbiw h2
  obtain ⟨l1,s1⟩:=zbod a c (x:=c1.toList) (y:=c2.toList) ha (fun i hi => by rw [ay]; exact q1 i hi) (fun i hi => by rw [ay]; exact r1 i hi)
  obtain ⟨l2,s2⟩:=zbod b d (x:=d1.toList) (y:=d2.toList) hb (fun i hi => by rw [ay]; exact q2 i hi) (fun i hi => by rw [ay]; exact r2 i hi)
  have ec:c1 = c2:=Array.ext (by omega) fun i hi hj => by
   have:=s1 i (by omega)
   rw [ay,ay] at this
   simpa [Array.getD,hi,hj] using this
  have ed:d1 = d2:=Array.ext (by omega) fun i hi hj => by
   have:=s2 i (by omega)
   rw [ay,ay] at this
   simpa [Array.getD,hi,hj] using this
  rw [ec,ed]
theorem zbod:∀ (a c:List TV) {x y:List Value},zbbd a c = true → (∀ i,i < a.length → TR σ e tk (a.getD i .undef) (x.getD i Go.undef)) → (∀ i,i < c.length → TR σ e tk (c.getD i .undef) (y.getD i Go.undef)) → a.length = c.length ∧ ∀ i,i < a.length → x.getD i Go.undef = y.getD i Go.undef
 | [],[],x,y,_,_,_ => ⟨rfl,fun i hi => absurd hi (Nat.not_lt_zero _)⟩
 | v :: r,u :: s,x,y,h,h1,h2 => by
  simp only [zbbd,Bool.and_eq_true] at h
  have g0:=zbt5 v u h.1 (h1 0 (by simp)) (h2 0 (by simp))
  obtain ⟨g1,g2⟩:=zbod r s (x:=x.drop 1) (y:=y.drop 1) h.2 (fun i hi => by have:=h1 (i + 1) (by simpa using hi); simpa [List.getD_eq_getElem?_getD,List.getElem?_drop,Nat.add_comm] using this) (fun i hi => by have:=h2 (i + 1) (by simpa using hi); simpa [List.getD_eq_getElem?_getD,List.getElem?_drop,Nat.add_comm] using this)
  refine ⟨by simp [g1],fun i hi => ?_⟩
  cases i with
  | zero => exact g0
  | succ i => have:=g2 i (by simpa using hi); simpa [List.getD_eq_getElem?_getD,List.getElem?_drop,Nat.add_comm] using this
end
theorem j6 {i:I} {v:TV} (h:zbix i fr τ = some v):tP i fr τ = some v:=by
 unfold zbix at h
 split at h
 · rename_i x
   unfold rdO at h
   split at h
   · rename_i id off hx
     simp only [tP,hx]
     exact h
   · cases h
 · cases h
theorem j3 {y:Ins} (hs:St B e fr tk τ fr' σ) (h:zblm y fr τ = true):kq P y fr' σ:=by
 unfold zblm at h
 intro _
 split at h
 · rename_i d hd
   unfold zbmy at h
   split at h
   · rename_i v hv
     refine zbgl (j6 hv) hs _ fun w hw d' hd' => ?_
     rw [hd] at hd'
     injection hd' with hd'
     subst hd'
     exact zbt5 _ _ h hw (hs.fm d)
   · cases h
 · cases h
theorem zbth {cf:CF} (hcf:ei P cf) {x:ap} {fr2:TF} {k:Nat} {told:List (Nat × Ins)} (h:ey cf true x fr tk τ = some (fr2,tk',τ')) (hs:St B e fr tk τ fr' σ) (ht:∀ p ∈ told,kq P p.2 fr' σ) (K:Fr → ah → Prop)
 (hK:∀ e' fr2' σ',St B e' fr2 tk' τ' fr2' σ' → (∀ p ∈ zbfy x k (ky x.x.i x.m fr τ).1 (ky x.x.i x.m fr τ).2 told,kq P p.2 fr2' σ') → K fr2' σ'):jw P x.x K fr' σ:=by
 obtain ⟨e1,hs1⟩:=zajp hs x.x.i x.m
 have old:∀ {e':Env} {σ':ah} {v:Value},Chg (sd (p9 x (ky x.x.i x.m fr τ).1)) e1 σ e' σ' → ((x.m = 0 ∧ am x.x.i = .R ∧ kf x.x.dst x.x.looks = true ∧ (zbbn x.x.i (ky x.x.i x.m fr τ).1).isSome = true) → kq P x.x (fr'.put x.x.dst v) σ') →
  ∀ p ∈ zbfy x k (ky x.x.i x.m fr τ).1 (ky x.x.i x.m fr τ).2 told,kq P p.2 (fr'.put x.x.dst v) σ':=fun {e' σ' v} hc hx p hp => by
  unfold zbfy at hp
  have oldp:∀ p ∈ told.filter (fun y => yj x y.2 (ky x.x.i x.m fr τ).1 (ky x.x.i x.m fr τ).2),kq P p.2 (fr'.put x.x.dst v) σ':=fun p hp => by
   obtain ⟨h1,h2⟩:=List.mem_filter.1 hp
   exact zbb2 hs1 h2 (ht p h1) hc
  split at hp
  · rename_i hr
    rcases List.mem_cons.1 hp with rfl | hp
    · exact hx hr
    · exact oldp p hp
  · exact oldp p hp
 have go:(gdP fr' x.x.guard) → tGo cf true x fr tk τ = some (fr2,tk',τ') → cw P x.x.i (fun v σ' => K (fr'.put x.x.dst v) σ') fr' σ:=fun hgd h => by
  obtain ⟨⟨v,tk2,τ2⟩,hv,he⟩:=Option.map_eq_some_iff.1 h
  simp only [Prod.mk.injEq] at he
  obtain ⟨rfl,rfl,rfl⟩:=he
  by_cases hr:x.m = 0 ∧ am x.x.i = .R ∧ kf x.x.dst x.x.looks = true ∧ (zbbn x.x.i (ky x.x.i x.m fr τ).1).isSome = true
  · obtain ⟨r1,r2,r3,r4⟩:=hr
    have hpre:ky x.x.i x.m fr τ = (fr,τ):=by unfold ky; rw [if_neg (by rw [r1]; decide)]
    have hv':(tP x.x.i (ky x.x.i x.m fr τ).1 (ky x.x.i x.m fr τ).2).map (fun v => (v,tk,(ky x.x.i x.m fr τ).2)) = some (v,tk2,τ2):=by
     rw [hpre] at hv ⊢
     obtain ⟨⟨d,i,g⟩,m⟩:=x
     simp only at r1 r2 hv
     subst r1
     cases i with
     | load1 y => simpa [ca,tOp] using hv
     | loadN n y => simpa [ca,tOp] using hv
     | toStr y => simpa [ca,tOp] using hv
     | _ => cases r2
    obtain ⟨v',hv2,he⟩:=Option.map_eq_some_iff.1 hv'
    simp only [Prod.mk.injEq] at he
    obtain ⟨rfl,rfl,rfl⟩:=he
    have q:=zbgl (P:=P) hv2 hs1 (fun w σ' => TR σ e1 tk v' w) (fun w hw => hw)
    rw [x8 (by rw [r2]; simp)]
    obtain ⟨w,q2,q3⟩:=zbf5 r2 q
    refine q3 fr' σ _ (fun _ _ => rfl) (.refl _) (hK e1 _ σ (hs1.put _ q2) (old (.refl _ _ _) fun _ => ?_))
    intro _
    refine q3 _ σ _ (zbi6 r3) (.refl _) fun d hd => ?_
    rw [hd]; simp [Fr.put]
  · exact zbby hcf hv hs1 _ fun e' σ' w q1 q2 q3 => hK e' _ σ' (q1.put _ q2) (old q3 fun h => absurd h hr)
 have skip:¬ gdP fr' x.x.guard → some (dh fr x.x.dst (.tup []),tk,τ) = some (fr2,tk',τ') → K (fr'.put x.x.dst undef) σ:=fun hn h => by
  simp only [Option.some.injEq,Prod.mk.injEq] at h
  obtain ⟨rfl,rfl,rfl⟩:=h
  refine hK e _ σ (hs.put _ zaaz) (old (.refl _ _ _) fun hr hg => absurd ((za9h fun t b hgg => ?_).1 hg) hn)
  exact zbh3 hr.2.2.1 hgg
 unfold ey at h
 unfold jw
 split at h
 · rename_i hg
   rw [hg]
   exact go (by rw [hg]; trivial) h
 · rename_i t b hg
   rw [hg]
   have ht:=hs.fm t
   split at h
   · rename_i c hc
     rw [hc] at ht
     have ht:=np ht
     split at h
     · rename_i hcb
       exact ⟨fun _ => go (by rw [hg]; simp only [gdP]; rw [ht,hcb]) h,fun hn => absurd (by rw [ht,hcb]) hn⟩
     · rename_i hcb
       have hne:fr' t ≠ .bool b:=fun hn => absurd (by rw [ht] at hn; injection hn) hcb
       exact ⟨fun hn => absurd hn hne,fun _ => skip (by rw [hg]; exact hne) h⟩
   · rename_i hc
     rw [hc] at ht
     have ht:=zbot ht
     have hne:fr' t ≠ .bool b:=fun hn => by rw [ht] at hn; cases hn
     exact ⟨fun hn => absurd hn hne,fun _ => skip (by rw [hg]; exact hne) h⟩
   · cases h
theorem zb4y {cf:CF} (hcf:ei P cf) {x:ap} {fr2:TF} {k:Nat} {told:List (Nat × Ins)} (h:ey cf true x fr tk τ = some (fr2,tk',τ')) (hs:St B e fr tk τ fr' σ) (ht:∀ p ∈ told,kq P p.2 fr' σ) (K:Fr → ah → Prop)
 (hK:∀ e' fr2' σ',St B e' fr2 tk' τ' fr2' σ' → (∀ p ∈ eh x k (ky x.x.i x.m fr τ).1 (ky x.x.i x.m fr τ).2 fr2 τ' told,kq P p.2 fr2' σ') → K fr2' σ'):jw P x.x K fr' σ:=by
 by_cases hm7:x.m = 7
 · refine zbth hcf (k:=k) (told:=[]) h hs (fun p hp => by cases hp) K fun e' fr2' σ' q _ => hK e' fr2' σ' q fun p hp => ?_
   unfold eh at hp
   rw [if_pos hm7] at hp
   exact j3 q (List.mem_filter.1 hp).2
 · exact zbth hcf (k:=k) h hs ht K fun e' fr2' σ' q r => hK e' fr2' σ' q (by unfold eh; rw [if_neg hm7]; exact r)
theorem zb4x {cf:CF} (hcf:ei P cf) (L:List (ap × List Nat)):∀ (l:List (ap × List Nat)) (k:Nat),(∀ j,l[j]? = L[k + j]?) → ∀ {e:Env} {fr fr2:TF} {tk tk':TK} {τ τ':TH} {fr':Fr} {σ:ah} {told:List (Nat × Ins)},
 py cf k l told fr tk τ = some (fr2,tk',τ') → St B e fr tk τ fr' σ → (∀ p ∈ told,kq P p.2 fr' σ ∧ pq L p.1 = [p.2]) → ∀ (K:Fr → ah → Prop),
 (∀ e' fr2' σ',St B e' fr2 tk' τ' fr2' σ' → K fr2' σ') → db P (l.map fun p => (p.1.x,p.2.flatMap (pq L))) K fr' σ
 | [],k,hL,e,fr,fr2,tk,tk',τ,τ',fr',σ,told,h,hs,ht,K,hK => by
  simp only [py,Option.some.injEq,Prod.mk.injEq] at h
  obtain ⟨rfl,rfl,rfl⟩:=h
  exact hK e fr' σ hs
 | (x,ys) :: r,k,hL,e,fr,fr2,tk,tk',τ,τ',fr',σ,told,h,hs,ht,K,hK => by
  simp only [py] at h
  split at h
  · rename_i fr1 tk1 τ1 h1
    split at h
    · rename_i hys
      simp only [List.map_cons]
      refine rr.2 ?_
      refine zb4y hcf (k:=k) h1 hs (fun p hp => (ht p hp).1) _ fun e' fr2' σ' q1 q2 => ?_
      have hk:pq L k = [x.x]:=by
       have:=hL 0
       simp only [List.getElem?_cons_zero,Nat.add_zero] at this
       unfold pq; rw [← this]
      have ht':∀ p ∈ eh x k (ky x.x.i x.m fr τ).1 (ky x.x.i x.m fr τ).2 fr1 τ1 told,kq P p.2 fr2' σ' ∧ pq L p.1 = [p.2]:=fun p hp => by
       refine ⟨q2 p hp,?_⟩
       unfold eh at hp
       split at hp
       · exact (ht p (List.mem_filter.1 hp).1).2
       unfold zbfy at hp
       have oldp:∀ p ∈ told.filter (fun y => yj x y.2 (ky x.x.i x.m fr τ).1 (ky x.x.i x.m fr τ).2),pq L p.1 = [p.2]:=fun p hp => (ht p (List.mem_filter.1 hp).1).2
       split at hp
       · rcases List.mem_cons.1 hp with rfl | hp
         · exact hk
         · exact oldp p hp
       · exact oldp p hp
      refine ⟨zbmm.2 fun y hy => ?_,zb4x hcf L r (k + 1) (fun j => by
       have:=hL (j + 1)
       simp only [List.getElem?_cons_succ] at this
       rw [this]; congr 1; omega) h q1 ht' K hK⟩
      obtain ⟨j,hj,hyj⟩:=List.mem_flatMap.1 hy
      have:=List.all_eq_true.1 hys j hj
      obtain ⟨p,hp,hpj⟩:=List.any_eq_true.1 this
      obtain ⟨p1,p2⟩:=ht' p hp
      rw [beq_iff_eq] at hpj
      rw [← hpj,p2] at hyj
      rw [List.mem_singleton] at hyj
      rw [hyj]; exact p1
    · cases h
  · cases h
theorem zbg2 {e:Env} {fr:TF} {fr':Fr} {σ:ah} (hs:St B e fr tk τ fr' σ) {l:List Ins} (h:zbm4 fr l = true) (y:Ins) (hy:y ∈ l):kq P y fr' σ:=by
 unfold zbm4 at h
 split at h
 · rename_i z
   rw [List.mem_singleton] at hy
   subst hy
   intro hg
   exfalso
   split at h
   · rename_i t b hgd
     rw [hgd] at hg
     have ht:=hs.fm t
     simp only [gdP] at hg
     split at h
     · rename_i c hc
       rw [hc] at ht
       have ht:=np ht
       rw [ht] at hg
       injection hg with hg
       simp [hg] at h
     · rename_i hc
       rw [hc] at ht
       have ht:=zbot ht
       rw [ht] at hg
       cases hg
     · cases h
   · cases h
 · cases h
theorem zbpr {cf:CF} (hcf:ei P cf) {L:List (ap × List Nat)} {k:Nat} {told told':List (Nat × Ins)} {fr1:TF} {tk1:TK} {τ1:TH} (h:r8 cf L k told fr tk τ = some (told',fr1,tk1,τ1)) (hs:St B e fr tk τ fr' σ) (ht:∀ p ∈ told,kq P p.2 fr' σ ∧ pq L p.1 = [p.2]) (K:Fr → ah → Prop)
 (hK:∀ e' fr1' σ',St B e' fr1 tk1 τ1 fr1' σ' → (∀ p ∈ told',kq P p.2 fr1' σ' ∧ pq L p.1 = [p.2]) → K fr1' σ'):dq P (zbgz L k) K fr' σ:=by
 unfold r8 at h
 split at h
 · rename_i x ys hx
   split at h
   · rename_i fr2 tk2 τ2 h1
     split at h
     · rename_i hys
       simp only [Option.some.injEq,Prod.mk.injEq] at h
       obtain ⟨rfl,rfl,rfl,rfl⟩:=h
       have e0:zbgz L k = (x.x,ys.flatMap (pq L)):=by unfold zbgz; rw [hx]
       rw [e0]
       refine zb4y hcf (k:=k) h1 hs (fun p hp => (ht p hp).1) _ fun e' fr2' σ' q1 q2 => ?_
       have hk:pq L k = [x.x]:=by unfold pq; rw [hx]
       have ht':∀ p ∈ eh x k (ky x.x.i x.m fr τ).1 (ky x.x.i x.m fr τ).2 fr2 τ2 told,kq P p.2 fr2' σ' ∧ pq L p.1 = [p.2]:=fun p hp => by
        refine ⟨q2 p hp,?_⟩
        unfold eh at hp
        split at hp
        · exact (ht p (List.mem_filter.1 hp).1).2
        unfold zbfy at hp
        have oldp:∀ p ∈ told.filter (fun y => yj x y.2 (ky x.x.i x.m fr τ).1 (ky x.x.i x.m fr τ).2),pq L p.1 = [p.2]:=fun p hp => (ht p (List.mem_filter.1 hp).1).2
        split at hp
        · rcases List.mem_cons.1 hp with rfl | hp
          · exact hk
          · exact oldp p hp
        · exact oldp p hp
       refine ⟨zbmm.2 fun y hy => ?_,hK _ _ _ q1 ht'⟩
       obtain ⟨j,hj,hyj⟩:=List.mem_flatMap.1 hy
       have:=List.all_eq_true.1 hys j hj
       rcases Bool.or_eq_true _ _ |>.mp this with this | this
       · obtain ⟨p,hp,hpj⟩:=List.any_eq_true.1 this
         obtain ⟨p1,p2⟩:=ht' p hp
         rw [beq_iff_eq] at hpj
         rw [← hpj,p2] at hyj
         rw [List.mem_singleton] at hyj
         rw [hyj]; exact p1
       · exact zbg2 q1 this y hyj
     · cases h
   · cases h
 · cases h
theorem zboh {cf:CF} {L:List (ap × List Nat)} {k:Nat} {told told':List (Nat × Ins)} {fr1:TF} {tk1:TK} {τ1:TH} (h:r8 cf L k told fr tk τ = some (told',fr1,tk1,τ1)) (ht:∀ p ∈ told,pq L p.1 = [p.2]):∀ p ∈ told',pq L p.1 = [p.2]:=by
 unfold r8 at h
 split at h
 · rename_i x ys hx
   split at h
   · rename_i fr2 tk2 τ2 h1
     split at h
     · simp only [Option.some.injEq,Prod.mk.injEq] at h
       obtain ⟨rfl,rfl,rfl,rfl⟩:=h
       have hk:pq L k = [x.x]:=by unfold pq; rw [hx]
       intro p hp
       unfold eh at hp
       split at hp
       · exact ht p (List.mem_filter.1 hp).1
       unfold zbfy at hp
       split at hp
       · rcases List.mem_cons.1 hp with rfl | hp
         · exact hk
         · exact ht p (List.mem_filter.1 hp).1
       · exact ht p (List.mem_filter.1 hp).1
     · cases h
   · cases h
 · cases h
theorem zbn7 {cf:CF} (lv:List Nat) (L:List (ap × List Nat)):∀ (t:DTr Nat) {fr:TF} {tk:TK} {τ:TH} {R:List (Nat × Ins) × TF × TK × TH} {told:List (Nat × Ins)},yg cf lv L t told fr tk τ = some R → (∀ p ∈ told,pq L p.1 = [p.2]) → ∀ p ∈ R.1,pq L p.1 = [p.2]
 | .nil,fr,tk,τ,R,told,h,ht => by
  simp only [yg,Option.some.injEq] at h
  subst h
  exact ht
 | .cons k r,fr,tk,τ,R,told,h,ht => by
  simp only [yg] at h
  obtain ⟨⟨t1,f1,k1,o1⟩,h1,h2⟩:=Option.bind_eq_some_iff.1 h
  exact zbn7 lv L r h2 (zboh h1 ht)
 | .alt k r j q,fr,tk,τ,R,told,h,ht => by
  simp only [yg] at h
  obtain ⟨R1,h1,h2⟩:=Option.bind_eq_some_iff.1 h
  obtain ⟨R2,h3,h4⟩:=Option.bind_eq_some_iff.1 h2
  split at h4
  · injection h4 with h4
    subst h4
    obtain ⟨⟨t1,f1,k1,o1⟩,g1,g2⟩:=Option.bind_eq_some_iff.1 h1
    exact fun p hp => zbn7 lv L r g2 (zboh g1 ht) p (List.mem_filter.1 hp).1
  · cases h4
theorem zblr {cf:CF} (hcf:ei P cf) (lv:List Nat) (L:List (ap × List Nat)):∀ (t:DTr Nat) {e:Env} {fr:TF} {tk:TK} {τ:TH} {R:List (Nat × Ins) × TF × TK × TH} {fr':Fr} {σ:ah} {told:List (Nat × Ins)},
 yg cf lv L t told fr tk τ = some R → St B e fr tk τ fr' σ → (∀ p ∈ told,kq P p.2 fr' σ ∧ pq L p.1 = [p.2]) → ∀ (K:Fr → ah → Prop),
 (∀ e' fr2 fr2' σ',sel lv fr2 = sel lv R.2.1 → St B e' fr2 R.2.2.1 R.2.2.2 fr2' σ' → (∀ p ∈ R.1,kq P p.2 fr2' σ' ∧ pq L p.1 = [p.2]) → K fr2' σ') → bv P (t.map (zbgz L)) K fr' σ
 | .nil,e,fr,tk,τ,R,fr',σ,told,h,hs,ht,K,hK => by
  simp only [yg,Option.some.injEq] at h
  subst h
  exact hK e fr fr' σ rfl hs ht
 | .cons k r,e,fr,tk,τ,R,fr',σ,told,h,hs,ht,K,hK => by
  simp only [yg] at h
  obtain ⟨⟨t1,f1,k1,o1⟩,h1,h2⟩:=Option.bind_eq_some_iff.1 h
  exact zbpr hcf h1 hs ht _ fun e' fr1' σ' q1 q2 => zblr hcf lv L r h2 q1 q2 K hK
 | .alt k r j q,e,fr,tk,τ,R,fr',σ,told,h,hs,ht,K,hK => by
  simp only [yg] at h
  obtain ⟨R1,h1,h2⟩:=Option.bind_eq_some_iff.1 h
  obtain ⟨R2,h3,h4⟩:=Option.bind_eq_some_iff.1 h2
  split at h4
  · rename_i hc
    injection h4 with h4
    subst h4
    obtain ⟨c1,c2,c3⟩:=hc
    obtain ⟨⟨t1,f1,k1,o1⟩,g1,g2⟩:=Option.bind_eq_some_iff.1 h1
    obtain ⟨⟨t2,f2,k2,o2⟩,g3,g4⟩:=Option.bind_eq_some_iff.1 h3
    refine ⟨zbpr hcf g1 hs ht _ fun e' fr1' σ' q1 q2 => zblr hcf lv L r g2 q1 q2 K fun e' fr2 fr2' σ' hsel hst htl => hK e' fr2 fr2' σ' hsel hst fun p hp => htl p (List.mem_filter.1 hp).1,zbpr hcf g3 hs ht _ fun e' fr1' σ' q1 q2 => zblr hcf lv L q g4 q1 q2 K fun e' fr2 fr2' σ' hsel hst htl => hK e' fr2 fr2' σ' (hsel.trans c1.symm) (by rw [c2,c3]; exact hst) fun p hp => ?_⟩
    obtain ⟨hp1,hp2⟩:=List.mem_filter.1 hp
    obtain ⟨p',hp',hpe⟩:=List.any_eq_true.1 hp2
    rw [beq_iff_eq] at hpe
    obtain ⟨w1,w2⟩:=htl p' hp'
    obtain ⟨f3,f4⟩:pq L p.1 = [p.2] ∧ True:=by
     refine ⟨?_,trivial⟩
     exact zbn7 lv L r g2 (zboh g1 fun p hp => (ht p hp).2) p hp1
    rw [hpe,f3] at w2
    injection w2 with w2
    exact ⟨by rw [w2]; exact w1,f3⟩
  · cases h4
theorem zb5o {cf:CF} (hcf:ei P cf) (L:List (ap × List Nat)):∀ (t:List (DTr Nat × List Nat)) {e:Env} {fr:TF} {tk:TK} {τ:TH} {R:TF × TK × TH} {fr':Fr} {σ:ah} {told:List (Nat × Ins)},
 t9 cf L t told fr tk τ = some R → St B e fr tk τ fr' σ → (∀ p ∈ told,kq P p.2 fr' σ ∧ pq L p.1 = [p.2]) → ∀ (K:Fr → ah → Prop),
 (∀ e' fr2' σ',St B e' R.1 R.2.1 R.2.2 fr2' σ' → K fr2' σ') → bv P ((zbch t).map (zbgz L)) K fr' σ
 | [],e,fr,tk,τ,R,fr',σ,told,h,hs,ht,K,hK => by
  simp only [t9,Option.some.injEq] at h
  subst h
  exact hK e fr' σ hs
 | (t,lv) :: r,e,fr,tk,τ,R,fr',σ,told,h,hs,ht,K,hK => by
  simp only [t9] at h
  obtain ⟨R1,h1,h2⟩:=Option.bind_eq_some_iff.1 h
  show bv P ((t.join (zbch r)).map (zbgz L)) K fr' σ
  rw [zblw,zbl3]
  exact zblr hcf lv L t h1 hs ht _ fun e' fr2 fr2' σ' hsel hst htl => zb5o hcf L r h2 (by rw [← hsel]; exact hst.sel lv) htl K hK
end
end Go.Proofs.Ytgkkienmocpnbaa.Sh
