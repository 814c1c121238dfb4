import Derived.Test.YtdcfoaafkppojaaM7
set_option linter.unusedVariables false
set_option linter.unusedSimpArgs false
namespace Go.Proofs.Ytdcfoaafkppojaa.Sh
open Go Go.RowKit
section
variable {P : Program} {B : Bs} {e e' : Env} {fr : TF} {tk tk' : TK} {τ τ' : TH} {fr' : Fr} {σ σ' : ar}
theorem zatr (hs : St B e fr tk τ fr' σ) (args : List Operand) : (args.map fun a => (tO fr a).canT).length = (args.map (evO fr')).length ∧
 ∀ i,i < (args.map fun a => (tO fr a).canT).length → TR σ e tk ((args.map fun a => (tO fr a).canT).getD i .undef) ((args.map (evO fr')).getD i undef) := by
 refine ⟨by simp,fun i hi => ?_⟩
 have hi' : i < args.length := by simpa using hi
 simp only [List.getD_eq_getElem?_getD,List.getElem?_map,List.getElem?_eq_getElem hi',Option.map_some,Option.getD_some]
 exact zbbu (hs.op _)
theorem app_rel {a b : List TV} {c d : List Value} (h1 : a.length = c.length) (h2 : b.length = d.length) (g1 : ∀ i,i < a.length → TR σ e tk (a.getD i .undef) (c.getD i undef)) (g2 : ∀ i,i < b.length → TR σ e tk (b.getD i .undef) (d.getD i undef)) :
 (a ++ b).length = (c ++ d).length ∧ ∀ i,i < (a ++ b).length → TR σ e tk ((a ++ b).getD i .undef) ((c ++ d).getD i undef) := by
 refine ⟨by simp [h1,h2],fun i hi => ?_⟩
 by_cases hlt : i < a.length
 · have e1 : (a ++ b).getD i .undef = a.getD i .undef := by simp [List.getD_eq_getElem?_getD,List.getElem?_append_left hlt]
   have e2 : (c ++ d).getD i undef = c.getD i undef := by simp [List.getD_eq_getElem?_getD,List.getElem?_append_left (show i < c.length by omega)]
   rw [e1,e2]; exact g1 i hlt
 · have e1 : (a ++ b).getD i .undef = b.getD (i - a.length) .undef := by simp [List.getD_eq_getElem?_getD,List.getElem?_append_right (show a.length ≤ i by omega)]
   have e2 : (c ++ d).getD i undef = d.getD (i - a.length) undef := by simp [List.getD_eq_getElem?_getD,List.getElem?_append_right (show c.length ≤ i by omega),h1]
   rw [e1,e2]; exact g2 _ (by simp at hi; omega)
theorem zaw3 (hs : St B e fr tk τ fr' σ) {x : Operand} {f : FuncId} {a b : List TV} (hx : tO fr x = .func f a b) (args : List Operand) : ∃ c d,evO fr' x = .func (.func f) c d ∧
 (a ++ (args.map fun a => (tO fr a).canT) ++ b).length = (c.toList ++ args.map (evO fr') ++ d.toList).length ∧
 ∀ i,i < (a ++ (args.map fun a => (tO fr a).canT) ++ b).length → TR σ e tk ((a ++ (args.map fun a => (tO fr a).canT) ++ b).getD i .undef) ((c.toList ++ args.map (evO fr') ++ d.toList).getD i undef) := by
 have h := hs.op x
 rw [hx] at h
 obtain ⟨c,d,e1,h1,h2,h3,h4⟩ := zaxm h
 obtain ⟨a1,a2⟩ := zatr hs args
 obtain ⟨b1,b2⟩ := app_rel (a := a) (c := c.toList) (by simpa using h1) a1 (fun i hi => by rw [cb]; exact h3 i hi) a2
 obtain ⟨c1,c2⟩ := app_rel (b := b) (d := d.toList) b1 (by simpa using h2) b2 (fun i hi => by rw [cb]; exact h4 i hi)
 exact ⟨c,d,e1,c1,c2⟩
theorem args_op (hs : St B e fr tk τ fr' σ) (args : List Operand) : ∀ i,i < (args.map (tO fr)).length → TR σ e tk ((args.map (tO fr)).getD i .undef) ((args.map (evO fr')).getD i undef) := fun i hi => by
 have hi' : i < args.length := by simpa using hi
 have e1 : (args.map (tO fr)).getD i .undef = tO fr args[i] := by simp [List.getD_eq_getElem?_getD,hi']
 have e2 : (args.map (evO fr')).getD i undef = evO fr' args[i] := by simp [List.getD_eq_getElem?_getD,hi']
 rw [e1,e2]
 exact hs.op _
theorem zbct (hs : St B e fr tk τ fr' σ) (a : Operand) : ∃ e1,St B e1 (zbal a fr τ).1 tk (zbal a fr τ).2 fr' σ := by
 unfold zbal
 split
 · rename_i id o hz
   have hx := hs.op a
   rw [hz] at hx
   obtain ⟨hid,_⟩ := zt hx
   split
   · rename_i b hb
     split
     · rename_i hc
       obtain ⟨e1,h1,_⟩ := hs.lift hb (by rw [← hs.n]; exact hid) (by rw [← hs.lo]; exact hc.1) hc.2
       exact ⟨e1,h1⟩
     · exact ⟨e,hs⟩
   · exact ⟨e,hs⟩
 · exact ⟨e,hs⟩
theorem tPre_ok (hs : St B e fr tk τ fr' σ) (i : I) (m : Nat) : ∃ e1,St B e1 (zv i m fr τ).1 tk (zv i m fr τ).2 fr' σ := by
 unfold zv
 split
 · split
   · exact zbct hs _
   · exact zbct hs _
   · exact ⟨e,hs⟩
 · exact ⟨e,hs⟩
theorem tAny_ok {cf : CF} (hcf : CFOK P cf) {x : au} {v : TV} (h : zaz8 cf false x fr tk τ = some (v,tk',τ')) (hs : St B e fr tk τ fr' σ) (K : Value → ar → Prop)
 (hK : ∀ e' σ' w,St B e' fr tk' τ' fr' σ' → TR σ' e' tk' v w → K w σ') : evI P x.x.i K fr' σ := by
 obtain ⟨⟨d,i,g⟩,m⟩ := x
 cases i with
 | call f args =>
  simp only [zaz8] at h
  split at h
  · obtain ⟨rfl,rfl,c⟩ := tBor_ok hcf h hs (ws := args.map (evO fr')) (by simp) (args_op hs args)
    exact c.mono fun w σ' ⟨e1,ht⟩ => by subst e1; exact hK e _ w hs ht
  · obtain ⟨a1,a2⟩ := zatr hs args
    exact zafx hcf h hs a1 a2 K fun e' σ' w q1 q2 _ _ => hK e' σ' w q1 q2
 | callW f args =>
  obtain ⟨a1,a2⟩ := zatr hs args
  exact zafx hcf h hs a1 a2 K fun e' σ' w q1 q2 _ _ => hK e' σ' w q1 q2
 | callv x args =>
  simp only [zaz8] at h
  split at h
  · rename_i f a b hx
    obtain ⟨c,d,e1,a1,a2⟩ := zaw3 hs hx args
    simp only [evI,e1,kFun]
    exact zafx hcf h hs a1 a2 K fun e' σ' w q1 q2 _ _ => hK e' σ' w q1 q2
  · cases h
 | callvW x args =>
  simp only [zaz8] at h
  split at h
  · rename_i f a b hx
    obtain ⟨c,d,e1,a1,a2⟩ := zaw3 hs hx args
    simp only [evI,e1,kFun]
    exact zafx hcf h hs a1 a2 K fun e' σ' w q1 q2 _ _ => hK e' σ' w q1 q2
  · cases h
 | _ => simp only [zaz8] at h; exact tOp_ok (P := P) (d := d) (g := g) (m := m) h hs K fun e' σ' w q1 q2 _ => hK e' σ' w q1 q2
theorem tAny_okD {cf : CF} (hcf : CFOK P cf) {x : au} {v : TV} (h : zaz8 cf true x fr tk τ = some (v,tk',τ')) (hs : St B e fr tk τ fr' σ) (K : Value → ar → Prop)
 (hK : ∀ e' σ' w,St B e' fr tk' τ' fr' σ' → TR σ' e' tk' v w → Chg (zaeu (pv x fr)) e σ e' σ' → K w σ') : za0l P x.x.i K fr' σ := by
 obtain ⟨⟨d,i,g⟩,m⟩ := x
 have c0 : ∀ {S S' : Nat → Prop} {e' : Env} {σ' : ar},(∀ i,S i → S' i) → Chg S e σ e' σ' → Chg S' e σ e' σ' := fun hS hc => ⟨hc.keep,hc.nx,hc.n,hc.b,fun id hid q hn => hc.ob id hid q (fun h => hn (hS id h))⟩
 cases i with
 | call f args =>
  simp only [zaz8] at h
  split at h
  · obtain ⟨rfl,rfl,c⟩ := tBor_ok hcf h hs (ws := args.map (evO fr')) (by simp) (args_op hs args)
    exact c.mono fun w σ' ⟨e1,ht⟩ => by subst e1; exact ⟨.refl _,hK e _ w hs ht (.refl _ _ _)⟩
  · obtain ⟨a1,a2⟩ := zatr hs args
    exact zafx hcf h hs a1 a2 _ fun e' σ' w q1 q2 q3 q4 => ⟨q4 rfl,hK e' σ' w q1 q2 (c0 (fun _ h => by cases h) q3)⟩
 | callW f args =>
  obtain ⟨a1,a2⟩ := zatr hs args
  exact zafx hcf h hs a1 a2 K fun e' σ' w q1 q2 q3 _ => hK e' σ' w q1 q2 (c0 (fun _ _ => trivial) q3)
 | callv x args =>
  simp only [zaz8] at h
  split at h
  · rename_i f a b hx
    obtain ⟨c,d,e1,a1,a2⟩ := zaw3 hs hx args
    simp only [za0l,e1,kFun]
    exact zafx hcf h hs a1 a2 _ fun e' σ' w q1 q2 q3 q4 => ⟨q4 rfl,hK e' σ' w q1 q2 (c0 (fun _ h => by cases h) q3)⟩
  · cases h
 | callvW x args =>
  simp only [zaz8] at h
  split at h
  · rename_i f a b hx
    obtain ⟨c,d,e1,a1,a2⟩ := zaw3 hs hx args
    simp only [za0l,evI,e1,kFun]
    exact zafx hcf h hs a1 a2 K fun e' σ' w q1 q2 q3 _ => hK e' σ' w q1 q2 (c0 (fun _ _ => trivial) q3)
  · cases h
 | _ => simp only [zaz8] at h; exact tOp_ok (P := P) (d := d) (g := g) (m := m) h hs K fun e' σ' w q1 q2 q3 => hK e' σ' w q1 q2 q3
theorem tr_tup0 : TR σ e tk (.tup []) undef := .tup [] #[] rfl fun i hi => by simp at hi
theorem zaxj {w : Value} (h : TR σ e tk (.tup []) w) : w = undef := by
 obtain ⟨c,rfl,h1,_⟩ := tr_tup h
 have : c = #[] := Array.eq_empty_of_size_eq_zero h1.symm
 rw [this]; rfl
theorem tIns_ok {cf : CF} (hcf : CFOK P cf) {x : au} {fr2 : TF} (h : tIns cf false x fr tk τ = some (fr2,tk',τ')) (hs : St B e fr tk τ fr' σ) (K : Fr → ar → Prop)
 (hK : ∀ e' fr2' σ',St B e' fr2 tk' τ' fr2' σ' → K fr2' σ') : za4c P x.x K fr' σ := by
 have go : tGo cf false x fr tk τ = some (fr2,tk',τ') → evI P x.x.i (fun v σ' => K (fr'.put x.x.dst v) σ') fr' σ := fun h => by
  obtain ⟨⟨v,tk2,τ2⟩,hv,he⟩ := Option.map_eq_some_iff.1 h
  simp only [Prod.mk.injEq] at he
  obtain ⟨rfl,rfl,rfl⟩ := he
  obtain ⟨e1,h1⟩ := tPre_ok hs x.x.i x.m
  exact tAny_ok hcf hv h1 _ fun e' σ' w q1 q2 => hK e' _ σ' (q1.put _ q2)
 have skip : some (gr fr x.x.dst (.tup []),tk,τ) = some (fr2,tk',τ') → K (fr'.put x.x.dst undef) σ := fun h => by
  simp only [Option.some.injEq,Prod.mk.injEq] at h
  obtain ⟨rfl,rfl,rfl⟩ := h
  exact hK e _ σ (hs.put _ tr_tup0)
 unfold tIns at h
 unfold za4c
 split at h
 · rename_i hg
   rw [hg]
   exact go h
 · rename_i t b hg
   rw [hg]
   have ht := hs.fm t
   split at h
   · rename_i c hc
     rw [hc] at ht
     have ht := zaa3 ht
     split at h
     · rename_i hcb
       exact ⟨fun _ => go h,fun hn => absurd (by rw [ht,hcb]) hn⟩
     · rename_i hcb
       exact ⟨fun hn => absurd (by rw [ht] at hn; injection hn) hcb,fun _ => skip h⟩
   · rename_i hc
     rw [hc] at ht
     have ht := zaxj ht
     exact ⟨fun hn => (by rw [ht] at hn; cases hn),fun _ => skip h⟩
   · cases h
theorem tOps_ok {cf : CF} (hcf : CFOK P cf) : ∀ (l : List au) {e : Env} {fr fr2 : TF} {tk tk' : TK} {τ τ' : TH} {fr' : Fr} {σ : ar},tOps cf l fr tk τ = some (fr2,tk',τ') → St B e fr tk τ fr' σ → ∀ (K : Fr → ar → Prop),
 (∀ e' fr2' σ',St B e' fr2 tk' τ' fr2' σ' → K fr2' σ') → evL P (l.map au.x) K fr' σ
 | [],e,fr,fr2,tk,tk',τ,τ',fr',σ,h,hs,K,hK => by
  simp only [tOps,Option.some.injEq,Prod.mk.injEq] at h
  obtain ⟨rfl,rfl,rfl⟩ := h
  exact hK e fr' σ hs
 | x :: r,e,fr,fr2,tk,tk',τ,τ',fr',σ,h,hs,K,hK => by
  simp only [tOps] at h
  split at h
  · rename_i fr1 tk1 τ1 h1
    exact tIns_ok hcf h1 hs _ fun e' fr2' σ' q => tOps_ok hcf r h q K hK
  · cases h
theorem alike_free {fr' : Fr} {d : Option Nat} {v : Value} {y : Ins} (h : fg d y.dsts = true) : zaap fr' (fr'.put d v) y.i.ops ∧ (∀ t b,y.guard = some (t,b) → (fr'.put d v) t = fr' t) ∧ ∀ k,y.dst = some k → (fr'.put d v) k = fr' k := by
 obtain ⟨h1,h2⟩ := zazb (show fg d (y.looks ++ y.dst.toList) = true from h)
 refine ⟨zal5 h1,fun t b hg => zahy h1 hg,fun k hk => zaw0 h2 (by rw [hk]; simp)⟩
theorem rd_stays {i : I} {wh : Option Nat} {Q : Value → Prop} {fr2' : Fr} (hs : St B e fr tk τ fr' σ) (hw : f0 i fr = some wh) (h : evI P i (fun u _ => Q u) fr' σ) (ha : zaap fr' fr2' i.ops) (hk : zagx σ σ')
 (hb : ∀ id,wh = some id → id < e.n → σ'.at (e.b id) = σ.at (e.b id)) : evI P i (fun u _ => Q u) fr2' σ' := by
 cases i with
 | load1 x =>
  have ex : evO fr2' x = evO fr' x := ha x (by simp [I.ops])
  simp only [evI,ex] at h ⊢
  have hx := hs.op x
  simp only [f0] at hw
  split at hw
  · rename_i cs off ht
    rw [ht] at hx
    obtain ⟨g,o,t,ws,md,h1,h2,h3,h4,e1⟩ := zaj8 hx
    obtain ⟨m2,g1,g2⟩ := hk g t ws md h1 h2
    rw [e1] at h ⊢
    simp only [zaj6,ar.load,h1,g2] at h ⊢
    exact h
  · rename_i id off ht
    injection hw with hw
    rw [ht] at hx
    obtain ⟨hid,e1⟩ := zt hx
    rw [e1] at h ⊢
    simp only [zaj6,ar.load,hb id hw.symm hid] at h ⊢
    exact h
  · cases hw
 | loadN n x =>
  have ex : evO fr2' x = evO fr' x := ha x (by simp [I.ops])
  simp only [evI,ex] at h ⊢
  have hx := hs.op x
  simp only [f0] at hw
  split at hw
  · rename_i cs off ht
    rw [ht] at hx
    obtain ⟨g,o,t,ws,md,h1,h2,h3,h4,e1⟩ := zaj8 hx
    obtain ⟨m2,g1,g2⟩ := hk g t ws md h1 h2
    rw [e1] at h ⊢
    simp only [zaj6,ar.row,h1,g2] at h ⊢
    exact h
  · rename_i id off ht
    injection hw with hw
    rw [ht] at hx
    obtain ⟨hid,e1⟩ := zt hx
    rw [e1] at h ⊢
    simp only [zaj6,ar.row,hb id hw.symm hid] at h ⊢
    exact h
  · cases hw
 | toStr x =>
  have ex : evO fr2' x = evO fr' x := ha x (by simp [I.ops])
  simp only [evI,ex] at h ⊢
  have hx := hs.op x
  have go : ∀ l,(tO fr x).list = some l → km (evO fr' x) (Q (.string ⟨#[]⟩)) (fun a n s => (n = 0 → Q (.string ⟨#[]⟩)) ∧ (n ≠ 0 → r9 ((σ'.row a.block a.off n).bind bytesOf) fun bs => Q (.string ⟨bs.toArray⟩))) := fun l hl => by
   have hp := xa hl hx
   generalize evO fr' x = q at hp h
   cases hp with
   | slN => exact h
   | slE a s => exact ⟨h.1,fun hn => absurd rfl hn⟩
   | sl _ g o s t cs md q1 q2 q3 q4 q5 q6 q7 =>
    obtain ⟨m2,g1,g2⟩ := hk g t cs md q3 q4
    simp only [km,ar.row,q3,g2] at h ⊢
    exact h
  simp only [f0] at hw
  split at hw
  · rename_i l hl; exact go l (by rw [hl]; rfl)
  · rename_i k l hl; exact go l (by rw [hl]; rfl)
  · cases hw
 | _ => cases hw
theorem stays_ok {x : au} {y : Ins} {v : Value} (hs : St B e fr tk τ fr' σ) (ht : cz x y fr τ = true) (h : zaby P y fr' σ) (hc : Chg (zaeu (pv x fr)) e σ e' σ') : zaby P y (fr'.put x.x.dst v) σ' := by
 unfold cz at ht
 simp only [Bool.and_eq_true] at ht
 obtain ⟨ht1,ht2⟩ := ht
 obtain ⟨a1,a2,a3⟩ := alike_free (fr' := fr') (v := v) ht1
 intro hg
 have h1 := h ((gdP_of a2).1 hg)
 have e1 : (fun (u : Value) (_ : ar) => ∀ d,y.dst = some d → u = (fr'.put x.x.dst v) d) = fun u _ => ∀ d,y.dst = some d → u = fr' d := by
  funext u _
  exact propext ⟨fun h d hd => by rw [← a3 d hd]; exact h d hd,fun h d hd => by rw [a3 d hd]; exact h d hd⟩
 rw [e1]
 cases hw : f0 y.i fr with
 | none => rw [hw] at ht2; cases ht2
 | some wh =>
  refine rd_stays (Q := fun u => ∀ d,y.dst = some d → u = fr' d) hs hw h1 a1 hc.keep fun id hid hlt => ?_
  subst hid
  rw [hw] at ht2
  simp only [Bool.and_eq_true] at ht2
  obtain ⟨ht0,ht2⟩ := ht2
  have hq : e.who (e.b id) = .obj id := by
   obtain ⟨b,hb,ho⟩ := hs.ob id (by rw [← hs.n]; exact hlt)
   rw [hb] at ht0
   exact (ho.live (fun h0 => by simp only [h0] at ht0; cases ht0)).1
  refine hc.ob id hlt hq ?_
  cases htt : pv x fr with
  | none => simp [zaeu]
  | some o =>
   rw [htt] at ht2
   cases o with
   | none => cases ht2
   | some k => simp only [zaeu]; simpa using ht2
mutual
theorem za5x : ∀ (v v' : TV) {w w' : Value},v.same v' = true → TR σ e tk v w → TR σ e tk v' w' → w = w'
 | .int k n,.int j m,w,w',h,h1,h2 => by
  simp only [TV.same,Bool.and_eq_true,decide_eq_true_iff] at h
  rw [rq h1,rq h2,h.1,h.2]
 | .bool a,.bool b,w,w',h,h1,h2 => by
  simp only [TV.same,beq_iff_eq] at h
  rw [zaa3 h1,zaa3 h2,h]
 | .str a,.str b,w,w',h,h1,h2 => by
  simp only [TV.same,decide_eq_true_iff] at h
  rw [zagz h1,zagz h2,h]
 | .nilP,.nilP,w,w',h,h1,h2 => by rw [za3b h1,za3b h2]
 | .nilF,.nilF,w,w',h,h1,h2 => by rw [zbak h1,zbak h2]
 | .ptr i o,.ptr j p,w,w',h,h1,h2 => by
  simp only [TV.same,Bool.and_eq_true,beq_iff_eq] at h
  rw [(zt h1).2,(zt h2).2,h.1,h.2]
 | .func f a b,.func g c d,w,w',h,h1,h2 => by
  simp only [TV.same,Bool.and_eq_true,decide_eq_true_iff] at h
  obtain ⟨rfl,ha,hb⟩ := h
  obtain ⟨c1,d1,rfl,e1,e2,q1,q2⟩ := zaxm h1
  obtain ⟨c2,d2,rfl,f1,f2,r1,r2⟩ := zaxm h2
  obtain ⟨l1,s1⟩ := zaue a c (x := c1.toList) (y := c2.toList) ha (fun i hi => by rw [cb]; exact q1 i hi) (fun i hi => by rw [cb]; exact r1 i hi)
  obtain ⟨l2,s2⟩ := zaue b d (x := d1.toList) (y := d2.toList) hb (fun i hi => by rw [cb]; exact q2 i hi) (fun i hi => by rw [cb]; exact r2 i hi)
  have ec : c1 = c2 := Array.ext (by omega) fun i hi hj => by
   have := s1 i (by omega)
   rw [cb,cb] at this
   simpa [Array.getD,hi,hj] using this
  have ed : d1 = d2 := Array.ext (by omega) fun i hi hj => by
   have := s2 i (by omega)
   rw [cb,cb] at this
   simpa [Array.getD,hi,hj] using this
  rw [ec,ed]
theorem zaue : ∀ (a c : List TV) {x y : List Value},zaz9 a c = true → (∀ i,i < a.length → TR σ e tk (a.getD i .undef) (x.getD i Go.undef)) → (∀ i,i < c.length → TR σ e tk (c.getD i .undef) (y.getD i Go.undef)) → a.length = c.length ∧ ∀ i,i < a.length → x.getD i Go.undef = y.getD i Go.undef
 | [],[],x,y,_,_,_ => ⟨rfl,fun i hi => absurd hi (Nat.not_lt_zero _)⟩
 | v :: r,u :: s,x,y,h,h1,h2 => by
  simp only [zaz9,Bool.and_eq_true] at h
  have g0 := za5x v u h.1 (h1 0 (by simp)) (h2 0 (by simp))
  obtain ⟨g1,g2⟩ := zaue r s (x := x.drop 1) (y := y.drop 1) h.2 (fun i hi => by have := h1 (i + 1) (by simpa using hi); simpa [List.getD_eq_getElem?_getD,List.getElem?_drop,Nat.add_comm] using this) (fun i hi => by have := h2 (i + 1) (by simpa using hi); simpa [List.getD_eq_getElem?_getD,List.getElem?_drop,Nat.add_comm] using this)
  refine ⟨by simp [g1],fun i hi => ?_⟩
  cases i with
  | zero => exact g0
  | succ i => have := g2 i (by simpa using hi); simpa [List.getD_eq_getElem?_getD,List.getElem?_drop,Nat.add_comm] using this
end
theorem rdAgain_tP {i : I} {v : TV} (h : zayb i fr τ = some v) : tP i fr τ = some v := by
 unfold zayb at h
 split at h
 · rename_i x
   unfold rdO at h
   split at h
   · rename_i id off hx
     simp only [tP,hx]
     exact h
   · cases h
 · cases h
theorem rereads_ok {y : Ins} (hs : St B e fr tk τ fr' σ) (h : za3h y fr τ = true) : zaby P y fr' σ := by
 unfold za3h at h
 intro _
 split at h
 · rename_i d hd
   unfold samO at h
   split at h
   · rename_i v hv
     refine tP_ok (rdAgain_tP hv) hs _ fun w hw d' hd' => ?_
     rw [hd] at hd'
     injection hd' with hd'
     subst hd'
     exact za5x _ _ h hw (hs.fm d)
   · cases h
 · cases h
theorem za5r {cf : CF} (hcf : CFOK P cf) {x : au} {fr2 : TF} {k : Nat} {told : List (Nat × Ins)} (h : tIns cf true x fr tk τ = some (fr2,tk',τ')) (hs : St B e fr tk τ fr' σ) (ht : ∀ p ∈ told,zaby P p.2 fr' σ) (K : Fr → ar → Prop)
 (hK : ∀ e' fr2' σ',St B e' fr2 tk' τ' fr2' σ' → (∀ p ∈ lp x k (zv x.x.i x.m fr τ).1 (zv x.x.i x.m fr τ).2 told,zaby P p.2 fr2' σ') → K fr2' σ') : ru P x.x K fr' σ := by
 obtain ⟨e1,hs1⟩ := tPre_ok hs x.x.i x.m
 have old : ∀ {e' : Env} {σ' : ar} {v : Value},Chg (zaeu (pv x (zv x.x.i x.m fr τ).1)) e1 σ e' σ' → ((x.m = 0 ∧ vl x.x.i = .R ∧ fg x.x.dst x.x.looks = true ∧ (f0 x.x.i (zv x.x.i x.m fr τ).1).isSome = true) → zaby P x.x (fr'.put x.x.dst v) σ') →
  ∀ p ∈ lp x k (zv x.x.i x.m fr τ).1 (zv x.x.i x.m fr τ).2 told,zaby P p.2 (fr'.put x.x.dst v) σ' := fun {e' σ' v} hc hx p hp => by
  unfold lp at hp
  have oldp : ∀ p ∈ told.filter (fun y => cz x y.2 (zv x.x.i x.m fr τ).1 (zv x.x.i x.m fr τ).2),zaby P p.2 (fr'.put x.x.dst v) σ' := fun p hp => by
   obtain ⟨h1,h2⟩ := List.mem_filter.1 hp
   exact stays_ok hs1 h2 (ht p h1) hc
  split at hp
  · rename_i hr
    rcases List.mem_cons.1 hp with rfl | hp
    · exact hx hr
    · exact oldp p hp
  · exact oldp p hp
 have go : (gdP fr' x.x.guard) → tGo cf true x fr tk τ = some (fr2,tk',τ') → za0l P x.x.i (fun v σ' => K (fr'.put x.x.dst v) σ') fr' σ := fun hgd h => by
  obtain ⟨⟨v,tk2,τ2⟩,hv,he⟩ := Option.map_eq_some_iff.1 h
  simp only [Prod.mk.injEq] at he
  obtain ⟨rfl,rfl,rfl⟩ := he
  by_cases hr : x.m = 0 ∧ vl x.x.i = .R ∧ fg x.x.dst x.x.looks = true ∧ (f0 x.x.i (zv x.x.i x.m fr τ).1).isSome = true
  · obtain ⟨r1,r2,r3,r4⟩ := hr
    have hpre : zv x.x.i x.m fr τ = (fr,τ) := by unfold zv; rw [if_neg (by rw [r1]; decide)]
    have hv' : (tP x.x.i (zv x.x.i x.m fr τ).1 (zv x.x.i x.m fr τ).2).map (fun v => (v,tk,(zv x.x.i x.m fr τ).2)) = some (v,tk2,τ2) := by
     rw [hpre] at hv ⊢
     obtain ⟨⟨d,i,g⟩,m⟩ := x
     simp only at r1 r2 hv
     subst r1
     cases i with
     | load1 y => simpa [zaz8,tOp] using hv
     | loadN n y => simpa [zaz8,tOp] using hv
     | toStr y => simpa [zaz8,tOp] using hv
     | _ => cases r2
    obtain ⟨v',hv2,he⟩ := Option.map_eq_some_iff.1 hv'
    simp only [Prod.mk.injEq] at he
    obtain ⟨rfl,rfl,rfl⟩ := he
    have q := tP_ok (P := P) hv2 hs1 (fun w σ' => TR σ e1 tk v' w) (fun w hw => hw)
    rw [zagr (by rw [r2]; simp)]
    obtain ⟨w,q2,q3⟩ := zbbo r2 q
    refine q3 fr' σ _ (fun _ _ => rfl) (.refl _) (hK e1 _ σ (hs1.put _ q2) (old (.refl _ _ _) fun _ => ?_))
    intro _
    refine q3 _ σ _ (zal5 r3) (.refl _) fun d hd => ?_
    rw [hd]; simp [Fr.put]
  · exact tAny_okD hcf hv hs1 _ fun e' σ' w q1 q2 q3 => hK e' _ σ' (q1.put _ q2) (old q3 fun h => absurd h hr)
 have skip : ¬ gdP fr' x.x.guard → some (gr fr x.x.dst (.tup []),tk,τ) = some (fr2,tk',τ') → K (fr'.put x.x.dst undef) σ := fun hn h => by
  simp only [Option.some.injEq,Prod.mk.injEq] at h
  obtain ⟨rfl,rfl,rfl⟩ := h
  refine hK e _ σ (hs.put _ tr_tup0) (old (.refl _ _ _) fun hr hg => absurd ((gdP_of fun t b hgg => ?_).1 hg) hn)
  exact zahy hr.2.2.1 hgg
 unfold tIns at h
 unfold ru
 split at h
 · rename_i hg
   rw [hg]
   exact go (by rw [hg]; trivial) h
 · rename_i t b hg
   rw [hg]
   have ht := hs.fm t
   split at h
   · rename_i c hc
     rw [hc] at ht
     have ht := zaa3 ht
     split at h
     · rename_i hcb
       exact ⟨fun _ => go (by rw [hg]; simp only [gdP]; rw [ht,hcb]) h,fun hn => absurd (by rw [ht,hcb]) hn⟩
     · rename_i hcb
       have hne : fr' t ≠ .bool b := fun hn => absurd (by rw [ht] at hn; injection hn) hcb
       exact ⟨fun hn => absurd hn hne,fun _ => skip (by rw [hg]; exact hne) h⟩
   · rename_i hc
     rw [hc] at ht
     have ht := zaxj ht
     have hne : fr' t ≠ .bool b := fun hn => by rw [ht] at hn; cases hn
     exact ⟨fun hn => absurd hn hne,fun _ => skip (by rw [hg]; exact hne) h⟩
   · cases h
theorem tInsD_ok {cf : CF} (hcf : CFOK P cf) {x : au} {fr2 : TF} {k : Nat} {told : List (Nat × Ins)} (h : tIns cf true x fr tk τ = some (fr2,tk',τ')) (hs : St B e fr tk τ fr' σ) (ht : ∀ p ∈ told,zaby P p.2 fr' σ) (K : Fr → ar → Prop)
 (hK : ∀ e' fr2' σ',St B e' fr2 tk' τ' fr2' σ' → (∀ p ∈ qz x k (zv x.x.i x.m fr τ).1 (zv x.x.i x.m fr τ).2 fr2 τ' told,zaby P p.2 fr2' σ') → K fr2' σ') : ru P x.x K fr' σ := by
 by_cases hm7 : x.m = 7
 · refine za5r hcf (k := k) (told := []) h hs (fun p hp => by cases hp) K fun e' fr2' σ' q _ => hK e' fr2' σ' q fun p hp => ?_
   unfold qz at hp
   rw [if_pos hm7] at hp
   exact rereads_ok q (List.mem_filter.1 hp).2
 · exact za5r hcf (k := k) h hs ht K fun e' fr2' σ' q r => hK e' fr2' σ' q (by unfold qz; rw [if_neg hm7]; exact r)
theorem zbcw {cf : CF} (hcf : CFOK P cf) (L : List (au × List Nat)) : ∀ (l : List (au × List Nat)) (k : Nat),(∀ j,l[j]? = L[k + j]?) → ∀ {e : Env} {fr fr2 : TF} {tk tk' : TK} {τ τ' : TH} {fr' : Fr} {σ : ar} {told : List (Nat × Ins)},
 zawc cf k l told fr tk τ = some (fr2,tk',τ') → St B e fr tk τ fr' σ → (∀ p ∈ told,zaby P p.2 fr' σ ∧ zba2 L p.1 = [p.2]) → ∀ (K : Fr → ar → Prop),
 (∀ e' fr2' σ',St B e' fr2 tk' τ' fr2' σ' → K fr2' σ') → zbbp P (l.map fun p => (p.1.x,p.2.flatMap (zba2 L))) K fr' σ
 | [],k,hL,e,fr,fr2,tk,tk',τ,τ',fr',σ,told,h,hs,ht,K,hK => by
  simp only [zawc,Option.some.injEq,Prod.mk.injEq] at h
  obtain ⟨rfl,rfl,rfl⟩ := h
  exact hK e fr' σ hs
 | (x,ys) :: r,k,hL,e,fr,fr2,tk,tk',τ,τ',fr',σ,told,h,hs,ht,K,hK => by
  simp only [zawc] at h
  split at h
  · rename_i fr1 tk1 τ1 h1
    split at h
    · rename_i hys
      simp only [List.map_cons]
      refine zate.2 ?_
      refine tInsD_ok hcf (k := k) h1 hs (fun p hp => (ht p hp).1) _ fun e' fr2' σ' q1 q2 => ?_
      have hk : zba2 L k = [x.x] := by
       have := hL 0
       simp only [List.getElem?_cons_zero,Nat.add_zero] at this
       unfold zba2; rw [← this]
      have ht' : ∀ p ∈ qz x k (zv x.x.i x.m fr τ).1 (zv x.x.i x.m fr τ).2 fr1 τ1 told,zaby P p.2 fr2' σ' ∧ zba2 L p.1 = [p.2] := fun p hp => by
       refine ⟨q2 p hp,?_⟩
       unfold qz at hp
       split at hp
       · exact (ht p (List.mem_filter.1 hp).1).2
       unfold lp at hp
       have oldp : ∀ p ∈ told.filter (fun y => cz x y.2 (zv x.x.i x.m fr τ).1 (zv x.x.i x.m fr τ).2),zba2 L p.1 = [p.2] := fun p hp => (ht p (List.mem_filter.1 hp).1).2
       split at hp
       · rcases List.mem_cons.1 hp with rfl | hp
         · exact hk
         · exact oldp p hp
       · exact oldp p hp
      refine ⟨zape.2 fun y hy => ?_,zbcw hcf L r (k + 1) (fun j => by
       have := hL (j + 1)
       simp only [List.getElem?_cons_succ] at this
       rw [this]; congr 1; omega) h q1 ht' K hK⟩
      obtain ⟨j,hj,hyj⟩ := List.mem_flatMap.1 hy
      have := List.all_eq_true.1 hys j hj
      obtain ⟨p,hp,hpj⟩ := List.any_eq_true.1 this
      obtain ⟨p1,p2⟩ := ht' p hp
      rw [beq_iff_eq] at hpj
      rw [← hpj,p2] at hyj
      rw [List.mem_singleton] at hyj
      rw [hyj]; exact p1
    · cases h
  · cases h
end
end Go.Proofs.Ytdcfoaafkppojaa.Sh
namespace Go.Proofs.Ytdcfoaafkppojaa.Sh
open Go Go.RowKit
section
variable {P : Program} {B : Bs} {e e' : Env} {fr : TF} {tk tk' : TK} {τ τ' : TH} {fr' : Fr} {σ σ' : ar}
theorem zagl {n m : Nat} : ∀ {l : List TV},ltL n m l = true → ∀ i,i < l.length → (l.getD i .undef).lt n m = true
 | [],_,i,hi => by simp at hi
 | v :: r,h,i,hi => by
  simp only [ltL,Bool.and_eq_true] at h
  cases i with
  | zero => simpa using h.1
  | succ i => simpa using zagl h.2 i (by simpa using hi)
def Own.cut (n : Nat) : Own → Own
 | .obj id => if id < n then .obj id else .none
 | .cell id j => if id < n then .cell id j else .none
 | o => o
theorem zbf4 {n : Nat} {o : Own} (h : o.cut n ≠ .none) : o.cut n = o := by
 unfold Own.cut at *
 split at h <;> (try split at h) <;> first | exact absurd rfl h | (rename_i hh; simp [hh]) | rfl
theorem za4e {n id : Nat} (h : id < n) : (Own.obj id).cut n = .obj id := by simp [Own.cut,h]
theorem zaw6 {n id j : Nat} (h : id < n) : (Own.cell id j).cut n = .cell id j := by simp [Own.cut,h]
theorem cut_lt {n id : Nat} {o : Own} (h : o.cut n = .obj id ∨ ∃ j,o.cut n = .cell id j) : id < n := by
 unfold Own.cut at h
 split at h
 · split at h
   · rcases h with h | ⟨_,h⟩ <;> cases h
     assumption
   · rcases h with h | ⟨_,h⟩ <;> cases h
 · split at h
   · rcases h with h | ⟨_,h⟩ <;> cases h
     assumption
   · rcases h with h | ⟨_,h⟩ <;> cases h
 · rename_i h1 h2
   rcases h with h | ⟨j,h⟩
   · exact absurd h (h1 _)
   · exact absurd h (h2 _ _)
theorem TR.clean {n m : Nat} (hn : e'.n = n) (hb : e'.b = e.b) (hw : ∀ g i,e.who g = .tok i → e'.who g = .tok i) {v : TV} {w : Value} (h : TR σ e tk v w) : v.lt n m = true → TR σ e' (tk.take m) v w := by
 induction h with
 | undef w => exact fun _ => .undef w
 | pr h => exact fun _ => .pr h
 | slz => exact fun _ => .slz
 | ptr id off h =>
  intro hu
  have : id < n := by simpa [TV.lt] using hu
  rw [← hb]; exact .ptr id off (by omega)
 | slm id off k sz h =>
  intro hu
  have : id < n := by simpa [TV.lt] using hu
  rw [← hb]; exact .slm id off k sz (by omega)
 | rptr cs off g o t ws md hat hmd hlen hr => exact fun _ => .rptr cs off g o t ws md hat hmd hlen hr
 | sla tok l w h hlt hl =>
  intro hu
  have : tok < m := by simpa [TV.lt] using hu
  refine .sla tok l w h (by simp; omega) fun k t hk => ?_
  rw [List.getElem?_take,if_pos this] at hk
  obtain ⟨h1,h2⟩ := hl k t hk
  refine ⟨h1,fun e => ?_⟩
  rcases h2 e with h2 | ⟨q1,g,s,cs,q2,q3,q4,q5⟩
  · exact .inl h2
  · exact .inr ⟨q1,g,s,cs,q2,hw g tok q3,q4,q5⟩
 | slb tok t g hlt hl =>
  intro hu
  have : tok < m := by simpa [TV.lt] using hu
  refine .slb tok t g (by simp; omega) fun k t' hk h0 => ?_
  rw [List.getElem?_take,if_pos this] at hk
  obtain ⟨h1,h2⟩ := hl k t' hk h0
  exact ⟨hw g tok h1,h2⟩
 | func f a b c d ha hb' h1 h2 ih1 ih2 =>
  intro hu
  simp only [TV.lt,Bool.and_eq_true] at hu
  exact .func f a b c d ha hb' (fun i hi => ih1 i hi (zagl hu.1 i hi)) (fun i hi => ih2 i hi (zagl hu.2 i hi))
 | agg a c ha h ih =>
  intro hu
  simp only [TV.lt] at hu
  exact .agg a c ha fun i hi => ih i hi (zagl hu i hi)
 | tup a c ha h ih =>
  intro hu
  simp only [TV.lt] at hu
  exact .tup a c ha fun i hi => ih i hi (zagl hu i hi)
theorem za2w {τ : TH} {n id : Nat} (h : id < n) : (τ.cut n).at id = τ.at id := by simp [TH.cut,TH.at,List.getElem?_take,h]
theorem zaf7 {τ : TH} {n : Nat} : (τ.cut n).next = min n τ.next := by simp [TH.cut,TH.next]
theorem za4f {τ : TH} {n : Nat} (h : τ.next ≤ n) : τ.cut n = τ := by
 unfold TH.cut
 rw [List.take_of_length_le h]
theorem St.cut (h : St B e fr tk τ fr' σ) {n m : Nat} {fr2 : TF} (hn : B.e.n ≤ n) (hle : n ≤ τ.next) (hbw : ∀ g id,(B.e.who g = .obj id ∨ ∃ j,B.e.who g = .cell id j) → id < B.e.n)
 (hf : ∀ t,(lkp fr2 t = lkp fr t ∧ (lkp fr t).lt n m = true) ∨ lkp fr2 t = .undef) :
 St B ⟨e.b,n,fun g => (e.who g).cut n⟩ fr2 (tk.take m) (τ.cut n) fr' σ where
 nx := h.nx
 keep := h.keep
 fro := h.fro
 n0 := hn
 b0 := h.b0
 n := by rw [zaf7]; simp only; omega
 lo := h.lo
 mine := fun g hg => h.mine g (by
  rw [← zbf4 (n := n) (o := e.who g) (fun h0 => by simp only [h0] at hg; exact hg)]; exact hg)
 wlt := fun g hg => h.wlt g (by rw [← zbf4 hg]; exact hg)
 wid := fun g id hg => cut_lt hg
 old := fun g hg hfr => by
  have := h.old g hg hfr
  simp only
  rw [this]
  cases hq : B.e.who g with
  | obj id => exact za4e (Nat.lt_of_lt_of_le (hbw g id (.inl hq)) hn)
  | cell id j => exact zaw6 (Nat.lt_of_lt_of_le (hbw g id (.inr ⟨j,hq⟩)) hn)
  | _ => rfl
 ob := fun id hid => by
  rw [zaf7] at hid
  obtain ⟨b,h1,h2⟩ := h.ob id (by omega)
  refine ⟨b,by rw [za2w (by omega)]; exact h1,zaw9.step (e := e) (.refl _) (fun _ _ => rfl) (by simp only; omega) (fun _ => rfl) (fun q => by simp only; rw [q]; exact za4e (by omega)) (fun g j hg => ⟨by simp only; rw [hg]; exact zaw6 (by omega),rfl⟩) h2⟩
 fm := fun t => by
  rcases hf t with ⟨h1,h2⟩ | h1
  · rw [h1]; exact TR.clean (e := e) (e' := ⟨e.b,n,fun g => (e.who g).cut n⟩) (n := n) rfl rfl (fun g i hg => by simp only [hg]; rfl) (h.fm t) h2
  · rw [h1]; exact .undef _
theorem St.clean (h : St B e fr tk τ fr' σ) (lv : List Nat) {tk0 : TK} {τ0 : TH} (hn : B.e.n ≤ τ0.next) (hbw : ∀ g id,(B.e.who g = .obj id ∨ ∃ j,B.e.who g = .cell id j) → id < B.e.n) :
 ∃ e',St B e' (tq lv tk0 τ0 fr tk τ).1 (tq lv tk0 τ0 fr tk τ).2.1 (tq lv tk0 τ0 fr tk τ).2.2 fr' σ := by
 unfold tq
 split
 · rename_i hc
   have hf : ∀ n,ltL n tk0.length (lv.map fun t => lkp fr t) = true → ∀ t,(lkp (Sh.sel lv fr) t = lkp fr t ∧ (lkp fr t).lt n tk0.length = true) ∨ lkp (Sh.sel lv fr) t = .undef := fun n hc t => by
    rw [lkp_sel]
    by_cases ht : t ∈ lv
    · rw [if_pos ht]
      refine .inl ⟨rfl,?_⟩
      obtain ⟨i,hi,rfl⟩ := List.mem_iff_getElem.1 ht
      have := zagl hc i (by simpa using hi)
      rwa [uh _ _ _ 0 _ hi,o9 (List.getElem?_eq_getElem hi)] at this
    · rw [if_neg ht]; exact .inr rfl
   by_cases hle : τ0.next ≤ τ.next
   · exact ⟨_,h.cut hn hle hbw (hf _ hc)⟩
   · have hle' : τ.next ≤ τ0.next := by omega
     rw [za4f hle']
     refine ⟨e,⟨h.nx,h.keep,h.fro,h.n0,h.b0,h.n,h.lo,h.mine,h.wlt,h.wid,h.old,h.ob,fun t => ?_⟩⟩
     rcases hf _ hc t with ⟨h1,h2⟩ | h1
     · rw [h1]
       -- all references lie below what is there
       have : TR σ e (tk.take tk0.length) (lkp fr t) (fr' t) := by
        have key : ∀ {v : TV} {w : Value},TR σ e tk v w → v.lt τ0.next tk0.length = true → TR σ e (tk.take tk0.length) v w := fun hv => by
         induction hv with
         | undef w => exact fun _ => .undef w
         | pr h => exact fun _ => .pr h
         | slz => exact fun _ => .slz
         | ptr id off h => exact fun _ => .ptr id off h
         | slm id off k sz h => exact fun _ => .slm id off k sz h
         | rptr cs off g o t ws md hat hmd hlen hr => exact fun _ => .rptr cs off g o t ws md hat hmd hlen hr
         | sla tok l w h hlt hl =>
          intro hu
          have : tok < tk0.length := by simpa [TV.lt] using hu
          refine .sla tok l w h (by simp; omega) fun k t hk => ?_
          rw [List.getElem?_take,if_pos this] at hk
          exact hl k t hk
         | slb tok t g hlt hl =>
          intro hu
          have : tok < tk0.length := by simpa [TV.lt] using hu
          refine .slb tok t g (by simp; omega) fun k t' hk h0 => ?_
          rw [List.getElem?_take,if_pos this] at hk
          exact hl k t' hk h0
         | func f a b c d ha hb' h1 h2 ih1 ih2 =>
          intro hu
          simp only [TV.lt,Bool.and_eq_true] at hu
          exact .func f a b c d ha hb' (fun i hi => ih1 i hi (zagl hu.1 i hi)) (fun i hi => ih2 i hi (zagl hu.2 i hi))
         | agg a c ha h ih =>
          intro hu
          simp only [TV.lt] at hu
          exact .agg a c ha fun i hi => ih i hi (zagl hu i hi)
         | tup a c ha h ih =>
          intro hu
          simp only [TV.lt] at hu
          exact .tup a c ha fun i hi => ih i hi (zagl hu i hi)
        exact key (h.fm t) h2
       exact this
     · rw [h1]; exact .undef _
 · exact ⟨e,h.sel lv⟩
def BsOK (B : Bs) : Prop := ∀ g id,(B.e.who g = .obj id ∨ ∃ j,B.e.who g = .cell id j) → id < B.e.n
def EFOK (P : Program) (ef : EF) : Prop := ∀ c fr tk τ ex fr2 tk2 τ2,ef c fr tk τ = some (ex,fr2,tk2,τ2) → ∀ (N : Nat) (B : Bs) (e : Env) (fr' : Fr) (σ : ar),BsOK B → St B e fr tk τ fr' σ → ∀ Q : Exit → Fr → ar → Prop,
 (∀ e' fr2' σ',St B e' fr2 tk2 τ2 fr2' σ' → Q ex.ex fr2' σ') → evC P N c.erase Q fr' σ
theorem bool_of {v : TV} {w : Value} {b : Bool} (h : TR σ e tk v w) (hv : v = .bool b) : w = .bool b := by subst hv; exact zaa3 h
theorem exec_ok {Γ : FuncId → Option TG} (k : Nat) (hc : CFOK P (zal4 Γ k).1) (he : ∀ m,m ≤ k → EFOK P (zal4 Γ m).2) : EFOK P (zal4 Γ (k + 1)).2 := by
 intro c fr tk τ ex fr2 tk2 τ2 h N B e fr' σ hB hs Q hQ
 have h : dl (zal4 Γ k) c fr tk τ = some (ex,fr2,tk2,τ2) := h
 cases c with
 | skip =>
  simp only [dl,Option.some.injEq,Prod.mk.injEq] at h
  obtain ⟨rfl,rfl,rfl,rfl⟩ := h
  exact hQ e fr' σ hs
 | ops l =>
  simp only [dl] at h
  obtain ⟨⟨q1,q2,q3⟩,ho,hq⟩ := Option.map_eq_some_iff.1 h
  simp only [Prod.mk.injEq] at hq
  obtain ⟨rfl,rfl,rfl,rfl⟩ := hq
  exact tOps_ok hc l ho hs (Q .normal) hQ
 | draw l =>
  simp only [dl] at h
  obtain ⟨⟨q1,q2,q3⟩,ho,hq⟩ := Option.map_eq_some_iff.1 h
  simp only [Prod.mk.injEq] at hq
  obtain ⟨rfl,rfl,rfl,rfl⟩ := hq
  exact zbcw hc l l 0 (fun j => by simp) ho hs (fun p hp => by simp at hp) (Q .normal) hQ
 | seq a b =>
  simp only [dl] at h
  split at h
  · rename_i fr1 tk1 τ1 h1
    refine he k (Nat.le_refl _) a _ _ _ _ _ _ _ h1 N B e fr' σ hB hs _ fun e' fr1' σ' q => ?_
    exact he k (Nat.le_refl _) b _ _ _ _ _ _ _ h N B e' fr1' σ' hB q Q hQ
  · rename_i hne
    refine he k (Nat.le_refl _) a _ _ _ _ _ _ _ h N B e fr' σ hB hs _ fun e' fr1' σ' q => ?_
    have := hQ e' fr1' σ' q
    cases ex with
    | normal => exact absurd h (hne _ _ _)
    | exit id => exact this
    | ret => exact this
 | cond c a b =>
  simp only [dl] at h
  have hx := hs.op c
  split at h
  · rename_i hc1
    have e1 := bool_of hx hc1
    simp only [TC.erase,evC,e1,zapk]
    exact ⟨fun _ => he k (Nat.le_refl _) a _ _ _ _ _ _ _ h N B e fr' σ hB hs Q hQ,fun h => (nomatch h)⟩
  · rename_i hc1
    have e1 := bool_of hx hc1
    simp only [TC.erase,evC,e1,zapk]
    exact ⟨fun h => (nomatch h),fun _ => he k (Nat.le_refl _) b _ _ _ _ _ _ _ h N B e fr' σ hB hs Q hQ⟩
  · cases h
 | block id lv a =>
  simp only [dl] at h
  split at h
  · rename_i ex1 fr1 tk1 τ1 h1
    refine he k (Nat.le_refl _) a _ _ _ _ _ _ _ h1 N B e fr' σ hB hs _ fun e' fr1' σ' q => ?_
    split at h
    · rename_i hx
      simp only [Option.some.injEq,Prod.mk.injEq] at h
      obtain ⟨rfl,h2⟩ := h
      obtain ⟨e2,q2⟩ := q.clean lv (tk0 := tk) (τ0 := τ) (by rw [← hs.n]; exact hs.n0) hB
      rw [h2] at q2
      have := hQ e2 fr1' σ' q2
      rcases hx with rfl | rfl
      · exact this
      · simp only [TEx.ex,zao0,if_true]; exact this
    · rename_i hx
      simp only [Option.some.injEq,Prod.mk.injEq] at h
      obtain ⟨rfl,rfl,rfl,rfl⟩ := h
      have := hQ e' fr1' σ' q
      cases ex1 with
      | normal => exact absurd (.inl rfl) hx
      | exit j =>
       simp only [TEx.ex,zao0]
       rw [if_neg (fun hj => hx (.inr (by rw [hj])))]
       exact this
      | ret => exact this
  · cases h
 | loop lv a =>
  simp only [TC.erase,evC]
  refine zaqm (ι := Nat) (fun n fr1' σ1 => n ≤ k + 1 ∧ ∃ e1 fr1 tk1 τ1,(zal4 Γ n).2 (.loop lv a) fr1 tk1 τ1 = some (ex,fr2,tk2,τ2) ∧ St B e1 fr1 tk1 τ1 fr1' σ1) (fun n => n) (k + 1) ⟨Nat.le_refl _,e,fr,tk,τ,h,hs⟩ ?_
  rintro n fr1' σ1 ⟨hnk,e1,fr1,tk1,τ1,h1,hs1⟩
  cases n with
  | zero => cases h1
  | succ m =>
   have h1 : dl (zal4 Γ m) (.loop lv a) fr1 tk1 τ1 = some (ex,fr2,tk2,τ2) := h1
   simp only [dl] at h1
   split at h1
   · rename_i fr3 tk3 τ3 h3
     refine he m (by omega) a _ _ _ _ _ _ _ h3 N B e1 fr1' σ1 hB (hs1.sel lv) _ fun e' fr3' σ' q => ?_
     obtain ⟨e2,q2⟩ := q.clean lv (tk0 := tk1) (τ0 := τ1) (by rw [← hs1.n]; exact hs1.n0) hB
     exact ⟨m,Nat.lt_succ_self _,by omega,e2,_,_,_,h1,q2⟩
   · rename_i hne
     refine he m (by omega) a _ _ _ _ _ _ _ h1 N B e1 fr1' σ1 hB (hs1.sel lv) _ fun e' fr3' σ' q => ?_
     have := hQ e' fr3' σ' q
     cases ex with
     | normal => exact absurd h1 (hne _ _ _)
     | exit id => exact this
     | ret => exact this
 | exit id =>
  simp only [dl,Option.some.injEq,Prod.mk.injEq] at h
  obtain ⟨rfl,rfl,rfl,rfl⟩ := h
  exact hQ e fr' σ hs
 | ret lv =>
  simp only [dl,Option.some.injEq,Prod.mk.injEq] at h
  obtain ⟨rfl,rfl,rfl,rfl⟩ := h
  exact hQ e fr' σ (hs.sel lv)
 | clean lv a =>
  exact he k (Nat.le_refl _) a _ _ _ _ _ _ _ h N B e fr' σ hB (hs.sel lv) Q hQ
theorem za08 (hs : St B e fr tk τ fr' σ) {r : R} {v : TV} (h : zaga fr τ r = some v) : ∃ w,zadk fr' σ r = some w ∧ TR σ e tk v w := by
 cases r with
 | tmp t => injection h with h; subst h; exact ⟨_,rfl,hs.fm t⟩
 | cell1 t =>
  simp only [zaga] at h
  have ht := hs.fm t
  split at h
  · rename_i id off hz
    rw [hz] at ht
    obtain ⟨hid,e1⟩ := zt ht
    obtain ⟨w,h1,h2⟩ := zbax hs hid h
    exact ⟨w,by simp only [zadk,e1,zau1]; exact h1,h2⟩
  · cases h
 | cellN t n =>
  simp only [zaga] at h
  have ht := hs.fm t
  split at h
  · rename_i id off hz
    rw [hz] at ht
    obtain ⟨hid,e1⟩ := zt ht
    split at h
    · cases h
    rename_i hn0
    obtain ⟨l,hl,rfl⟩ := Option.map_eq_some_iff.1 h
    obtain ⟨ws,h1,h2,h3,h4⟩ := ob_row hs hid hn0 hl
    exact ⟨.agg ws.toArray,by simp only [zadk,e1,zau1,h1,Option.map_some],.agg _ _ (by simpa using h2) fun j hj => by rw [dv]; exact h4 j hj⟩
  · cases h
theorem zaxi (hs : St B e fr tk τ fr' σ) : ∀ {rs : List R} {vs : List TV},zafw fr τ rs = some vs → ∃ ws,zagj fr' σ rs = some ws ∧ vs.length = ws.length ∧ ∀ i,i < vs.length → TR σ e tk (vs.getD i .undef) (ws.getD i undef)
 | [],vs,h => by injection h with h; subst h; exact ⟨[],rfl,rfl,fun i hi => by simp at hi⟩
 | r :: l,vs,h => by
  simp only [zafw] at h
  split at h
  · rename_i x y hx hy
    injection h with h; subst h
    obtain ⟨w,h1,h2⟩ := za08 hs hx
    obtain ⟨ws,g1,g2,g3⟩ := zaxi hs hy
    refine ⟨w :: ws,by simp only [zagj,h1,g1],by simp [g2],fun i hi => ?_⟩
    cases i with
    | zero => simpa using h2
    | succ i => simpa using g3 i (by simpa using hi)
  · cases h
theorem tres_ok (hs : St B e fr tk τ fr' σ) {rs : List R} {v : TV} (h : zbae rs fr τ = some v) (K : Value → Prop) (hK : ∀ w,TR σ e tk v w → K w) : zbc9 rs fr' σ K := by
 unfold zbae at h
 unfold zbc9
 split at h
 · rename_i r
   obtain ⟨w,h1,h2⟩ := za08 hs h
   simp only [h1,r9]
   exact hK w h2
 · rename_i hne
   obtain ⟨vs,hv,rfl⟩ := Option.map_eq_some_iff.1 h
   obtain ⟨ws,h1,h2,h3⟩ := zaxi hs hv
   split
   · rename_i r; exact absurd rfl (hne r)
   · simp only [h1,r9]
     exact hK _ (.tup _ _ (by simpa using h2) fun i hi => by rw [dv]; exact h3 i hi)
theorem zbe6 : ∀ (args : List TV) (k t : Nat),lkp (argF k args) t = if k ≤ t ∧ t < k + args.length then args.getD (t - k) .undef else .undef
 | [],k,t => by simp [argF,lkp]
 | v :: r,k,t => by
  simp only [argF,lkp,zbe6 r]
  by_cases h : t = k
  · subst h; simp
  · rw [if_neg h]
    by_cases h2 : k ≤ t ∧ t < k + (v :: r).length
    · simp only [List.length_cons] at h2
      rw [if_pos (by omega),if_pos (by simp only [List.length_cons]; omega)]
      have : t - k = (t - (k + 1)) + 1 := by omega
      rw [this]; rfl
    · simp only [List.length_cons] at h2
      rw [if_neg (by omega),if_neg (by simp only [List.length_cons]; omega)]
def GOK (P : Program) (Γ : FuncId → Option TG) : Prop := ∀ f,match Γ f with
 | some (.code fn) => ∃ H,uj P H f = some (fn.n,fn.c.erase,fn.rs)
 | some (.prim g) => ∀ args τ r τ',g args τ = some (r,τ') → za42 P f args τ r τ'
 | none => True
theorem frz_none (σ : ar) : σ.frz (fun _ => False) = σ := by
 unfold ar.frz
 congr 1
 funext g
 simp
theorem za39 (σ : ar) (S : Nat → Prop) : zagx σ (σ.frz S) := fun g t cs md h hm => by
 by_cases hs : S g
 · exact ⟨.ro,by simp,by rw [(za77 σ S g).1 hs,h]; rfl⟩
 · exact ⟨md,hm,by rw [(za77 σ S g).2 hs]; exact h⟩
theorem call_ok {Γ : FuncId → Option TG} (hΓ : GOK P Γ) {cf : CF} {ef : EF} (he : EFOK P ef) : CFOK P (sy Γ (cf,ef)) := by
 intro f args τ r τ' h
 have hf := hΓ f
 simp only [sy] at h
 split at h
 · rename_i fn hq
   rw [hq] at hf
   obtain ⟨H,hf⟩ := hf
   split at h
   · rename_i hlen
     split at h
     · rename_i ex fr tk τ1 h1
       split at h
       · rename_i hex
         obtain ⟨v,hv,h⟩ := Option.bind_eq_some_iff.1 h
         intro σ e ws hr hnt hlw hargs
         have hB : BsOK ⟨σ,e,τ.lock⟩ := hr.wid
         have entry : St ⟨σ,e,τ.lock⟩ e (argF 0 args) [] τ (za4s ws) σ := {
          nx := Nat.le_refl _
          keep := fun _ _ _ => rfl
          fro := .refl _
          n0 := Nat.le_refl _
          b0 := fun _ _ => rfl
          n := hr.n
          lo := rfl
          mine := fun g hg => by
           cases hq2 : e.who g with
           | none => rw [hq2] at hg; exact hg.elim
           | obj id => rw [hq2] at hg; exact .inr ⟨id,hg,.inl hq2⟩
           | cell id j => rw [hq2] at hg; exact .inr ⟨id,hg,.inr ⟨j,hq2⟩⟩
           | tok i => exact absurd hq2 (hnt g i)
          wlt := hr.wlt
          wid := hr.wid
          old := fun _ _ _ => rfl
          ob := hr.ob
          fm := fun t => by
           rw [zbe6]
           split
           · rename_i ht
             simp only [Nat.sub_zero,za4s]
             exact hargs t (by omega)
           · exact .undef _ }
         refine m7.ghost (zatj hf (by rw [← hlw]; exact hlen) ?_)
         refine he fn.c _ _ _ _ _ _ _ h1 fn.n _ e _ σ hB entry _ fun e1 fr' σ' q => ?_
         have fin : zbc9 fn.rs fr' σ' (fun w => ∃ S e',Aft ⟨σ,e,τ.lock⟩ e' τ' (σ'.frz S) ∧ TR (σ'.frz S) e' [] r w) := by
          refine tres_ok q hv _ fun w hw0 => ?_
          have hw := zbbu hw0
          have oldn : ∀ n,e.n ≤ n → ∀ g,g < σ.next → ¬ Bs.free ⟨σ,e,τ.lock⟩ g → ((e1.who g).noTok).cut n = e.who g := fun n hn g hg hfr => by
           have := q.old g hg hfr
           simp only at this
           rw [this]
           cases hq2 : e.who g with
           | obj id => exact za4e (Nat.lt_of_lt_of_le (hr.wid g id (.inl hq2)) hn)
           | cell id j => exact zaw6 (Nat.lt_of_lt_of_le (hr.wid g id (.inr ⟨j,hq2⟩)) hn)
           | tok i => exact absurd hq2 (hnt g i)
           | none => rfl
          have ntc : ∀ (o : Own) n i,(o.noTok).cut n ≠ .tok i := fun o n i => by
           cases o <;> simp [Own.noTok,Own.cut] <;> split <;> simp
          have aft : ∀ n,e.n ≤ n → n ≤ τ1.next → Aft0 ⟨σ,e,τ.lock⟩ ⟨e1.b,n,fun g => ((e1.who g).noTok).cut n⟩ (τ1.cut n) σ' := fun n hn hle => {
           hr := {
            n := by rw [zaf7]; simp only; omega
            wlt := fun g hg => q.wlt g (za3p (by rw [← zbf4 hg]; exact hg))
            wid := fun g id hg => cut_lt hg
            ob := fun id hid => by
             rw [zaf7] at hid
             obtain ⟨b,h1,h2⟩ := q.ob id (by omega)
             refine ⟨b,by rw [za2w (by omega)]; exact h1,zaw9.step (e := e1) (.refl _) (fun _ _ => rfl) (by simp only; omega) (fun _ => rfl) (fun q => by simp only; rw [q]; exact za4e (by omega)) (fun g j hg => ⟨by simp only; rw [hg]; exact zaw6 (by omega),rfl⟩) h2⟩ }
           nx := q.nx
           keep := q.keep
           fro := q.fro
           n0 := hn
           b0 := q.b0
           old := oldn n hn
           notok := fun g i => ntc _ _ _ }
          have hlo : τ1.lock = τ.lock := q.lo
          have hn1 : e.n ≤ τ1.next := by rw [← q.n]; exact q.n0
          split at h
          · -- the objects are read alone from now on
            obtain ⟨u,hu,h⟩ := Option.bind_eq_some_iff.1 h
            simp only [Option.some.injEq,Prod.mk.injEq] at h
            obtain ⟨rfl,rfl⟩ := h
            have ns : ∀ g,(∀ id,e1.who g = .obj id → id < τ.next) → ¬ ∃ id,τ.next ≤ id ∧ e1.who g = .obj id := fun g hg ⟨id,h1,h2⟩ => by have := hg id h2; omega
            have vw : View σ' e1 τ.next (σ'.frz fun g => ∃ id,τ.next ≤ id ∧ e1.who g = .obj id) := ⟨za39 _ _,fun id t cs h1 h2 h3 => by rw [(za77 σ' _ _).1 ⟨id,h1,h2⟩,h3]; rfl⟩
            have a := aft τ.next (Nat.le_of_eq hr.n) (by rw [← hr.n]; exact hn1)
            have a2 : Aft0 ⟨σ,e,τ.lock⟩ ⟨e1.b,τ.next,fun g => ((e1.who g).noTok).cut τ.next⟩ (τ1.cut τ.next) (σ'.frz fun g => ∃ id,τ.next ≤ id ∧ e1.who g = .obj id) := {
             hr := {
              n := a.hr.n
              wlt := a.hr.wlt
              wid := a.hr.wid
              ob := fun id hid => by
               obtain ⟨b,h1,h2⟩ := a.hr.ob id hid
               have hid2 : id < τ.next := by rw [zaf7] at hid; omega
               have own : ∀ {g : Nat} {o : Own},o ≠ .none → ((e1.who g).noTok).cut τ.next = o → (e1.who g).noTok = o := fun ho hq => by rw [← hq]; exact (zbf4 (by rw [hq]; exact ho)).symm
               refine ⟨b,h1,zaw9.step (e := ⟨e1.b,τ.next,fun g => ((e1.who g).noTok).cut τ.next⟩) (za39 _ _) (fun _ _ => rfl) (by simp only; omega) (fun qq => ?_) (fun qq => qq) (fun g j hg => ⟨hg,?_⟩) h2⟩
               · refine (za77 σ' _ _).2 (ns _ fun k hk => ?_)
                 have := zahr.1 (own (by simp) qq)
                 rw [this] at hk; injection hk with hk; omega
               · refine (za77 σ' _ _).2 (ns _ fun k hk => ?_)
                 have := zael.1 (own (by simp) hg)
                 rw [this] at hk; cases hk }
             nx := a.nx
             keep := fun g hg hfr => by
              have hns : ¬ ∃ id,τ.next ≤ id ∧ e1.who g = .obj id := ns g fun id hid => by
               have := q.old g hg hfr
               simp only at this
               rw [this] at hid
               have := hr.wid g id (.inl hid)
               have := hr.n
               omega
              simp only [ar.frz,if_neg hns]
              exact a.keep g hg hfr
             fro := a.fro.trans (za39 _ _)
             n0 := a.n0
             b0 := a.b0
             old := a.old
             notok := a.notok }
            exact ⟨_,_,⟨a2,hlo⟩,tfz_ok q vw hu hw0 _ _⟩
          refine ⟨fun _ => False,?_⟩
          rw [frz_none]
          split at h
          · rename_i hu
            simp only [Option.some.injEq,Prod.mk.injEq] at h
            obtain ⟨rfl,rfl⟩ := h
            refine ⟨_,⟨aft τ.next (Nat.le_of_eq hr.n) (by rw [← hr.n]; exact hn1),hlo⟩,?_⟩
            exact TR.cut (e := e1) (e' := ⟨e1.b,τ.next,fun g => ((e1.who g).noTok).cut τ.next⟩) (.refl _) (fun _ _ => rfl) (Nat.le_refl _) hw hu
          · split at h
            · rename_i hu
              simp only [Option.some.injEq,Prod.mk.injEq] at h
              obtain ⟨rfl,rfl⟩ := h
              have a := aft τ1.next hn1 (Nat.le_refl _)
              rw [za4f (Nat.le_refl _)] at a
              exact ⟨_,⟨a,hlo⟩,TR.cut (e := e1) (e' := ⟨e1.b,τ1.next,fun g => ((e1.who g).noTok).cut τ1.next⟩) (.refl _) (fun _ _ => rfl) (Nat.le_refl _) hw hu⟩
            · cases h
         rcases hex with rfl | rfl
         · exact fin
         · exact fin
       · cases h
     · cases h
   · cases h
 · rename_i g hq
   rw [hq] at hf
   exact hf _ _ _ _ h
 · cases h
theorem both_ok {Γ : FuncId → Option TG} (hΓ : GOK P Γ) : ∀ k,CFOK P (zal4 Γ k).1 ∧ ∀ m,m ≤ k → EFOK P (zal4 Γ m).2
 | 0 => by
  refine ⟨fun f args τ r τ' h => (by cases h),fun m hm => ?_⟩
  obtain rfl : m = 0 := by omega
  exact fun c fr tk τ ex fr2 tk2 τ2 h => (by cases h)
 | k + 1 => by
  obtain ⟨h1,h2⟩ := both_ok hΓ k
  refine ⟨call_ok hΓ (h2 k (Nat.le_refl _)),fun m hm => ?_⟩
  by_cases hmk : m = k + 1
  · subst hmk; exact exec_ok k h1 h2
  · exact h2 m (by omega)
end
end Go.Proofs.Ytdcfoaafkppojaa.Sh
