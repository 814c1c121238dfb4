import Derived.Test.YtgkkienmocpnbaaTv7
set_option linter.unusedVariables false
set_option linter.unusedSimpArgs false
/- The tree level: what runs, with as many rounds as it takes; its equations. -/
namespace Go.Proofs.Ytgkkienmocpnbaa.Sh
open Go Go.RowKit
def CLe (a b:CF):Prop:=∀ f args τ x,a f args τ = some x → b f args τ = some x
def ELe (a b:EF):Prop:=∀ c fr tk τ x,a c fr tk τ = some x → b c fr tk τ = some x
theorem CLe.refl (a:CF):CLe a a:=fun _ _ _ _ h => h
theorem ELe.refl (a:EF):ELe a a:=fun _ _ _ _ _ h => h
theorem CLe.trans {a b c:CF} (h:CLe a b) (k:CLe b c):CLe a c:=fun f args τ x q => k _ _ _ _ (h _ _ _ _ q)
theorem ELe.trans {a b c:EF} (h:ELe a b) (k:ELe b c):ELe a c:=fun f args tk τ x q => k _ _ _ _ _ (h _ _ _ _ _ q)
section
variable {cf cf':CF} {ef ef':EF}
theorem zbf2 {α β:Type} {a b:Option α} {f:α → β} {x:β} (h:∀ y,a = some y → b = some y) (hx:a.map f = some x):b.map f = some x:=by
 obtain ⟨y,hy,rfl⟩:=Option.map_eq_some_iff.1 hx
 rw [h y hy]; rfl
theorem zbmd (h:CLe cf cf') {lk:Bool} {f:FuncId} {args:List TV} {tk:TK} {τ:TH} {x:TV × TK × TH} (hx:tu cf lk f args tk τ = some x):tu cf' lk f args tk τ = some x:=by
 unfold tu at *
 split at hx
 · rename_i hu
   rw [if_pos hu]
   cases lk
   · exact zbf2 (fun y hy => h _ _ _ _ hy) hx
   · exact zbf2 (fun y hy => h _ _ _ _ hy) hx
 · cases hx
theorem zamu (h:CLe cf cf') {f:FuncId} {args:List TV} {tk:TK} {τ:TH} {x:TV × TK × TH} (hx:zbdw cf f args tk τ = some x):zbdw cf' f args tk τ = some x:=by
 unfold zbdw at *
 obtain ⟨as,h1,hx⟩:=Option.bind_eq_some_iff.1 hx
 obtain ⟨p,h2,hx⟩:=Option.bind_eq_some_iff.1 hx
 rw [h1,Option.bind_some,h _ _ _ _ h2,Option.bind_some]
 exact hx
theorem zbt8 (h:CLe cf cf') {dr:Bool} {x:ap} {fr:TF} {tk:TK} {τ:TH} {r:TV × TK × TH} (hx:ca cf dr x fr tk τ = some r):ca cf' dr x fr tk τ = some r:=by
 unfold ca at *
 split at hx
 · split at hx
   · rename_i hm; simp only [hm,if_true] at hx ⊢; exact zamu h hx
   · rename_i hm; simp only [hm,if_false] at hx ⊢; exact zbmd h hx
 · exact zbmd h hx
 · split at hx
   · exact zbmd h hx
   · cases hx
 · split at hx
   · exact zbmd h hx
   · cases hx
 · exact hx
theorem zbi4 (h:CLe cf cf') {dr:Bool} {x:ap} {fr:TF} {tk:TK} {τ:TH} {r:TF × TK × TH} (hx:ey cf dr x fr tk τ = some r):ey cf' dr x fr tk τ = some r:=by
 unfold ey tGo at *
 split at hx
 · exact zbf2 (fun y hy => zbt8 h hy) hx
 · split at hx
   · split at hx
     · rename_i hc; simp only [hc,if_true]; exact zbf2 (fun y hy => zbt8 h hy) hx
     · rename_i hc; simp only [hc,if_false]; exact hx
   · exact hx
   · cases hx
theorem zbnu (h:CLe cf cf'):∀ {l:List ap} {fr:TF} {tk:TK} {τ:TH} {r:TF × TK × TH},r9 cf l fr tk τ = some r → r9 cf' l fr tk τ = some r
 | [],fr,tk,τ,r,hx => hx
 | x :: l,fr,tk,τ,r,hx => by
  simp only [r9] at hx ⊢
  split at hx
  · rename_i h1
    rw [zbi4 h h1]
    exact zbnu h hx
  · cases hx
theorem zbof (h:CLe cf cf'):∀ {l:List (ap × List Nat)} {k:Nat} {told:List (Nat × Ins)} {fr:TF} {tk:TK} {τ:TH} {r:TF × TK × TH},py cf k l told fr tk τ = some r → py cf' k l told fr tk τ = some r
 | [],k,told,fr,tk,τ,r,hx => hx
 | (x,ys) :: l,k,told,fr,tk,τ,r,hx => by
  simp only [py] at hx ⊢
  split at hx
  · rename_i h1
    rw [zbi4 h h1]
    split at hx
    · rename_i hc; simp only [hc,if_true]; exact zbof h hx
    · cases hx
  · cases hx
theorem yh (h:CLe cf cf') {l:List (ap × List Nat)} {k:Nat} {told:List (Nat × Ins)} {fr:TF} {tk:TK} {τ:TH} {r:List (Nat × Ins) × TF × TK × TH} (hx:r8 cf l k told fr tk τ = some r):r8 cf' l k told fr tk τ = some r:=by
 unfold r8 at hx ⊢
 split at hx
 · rename_i x ys hl
   try simp only [hl]
   split at hx
   · rename_i h1
     rw [zbi4 h h1]
     exact hx
   · cases hx
 · cases hx
theorem n7 (h:CLe cf cf') {lv:List Nat} {l:List (ap × List Nat)}:∀ {t:DTr Nat} {told:List (Nat × Ins)} {fr:TF} {tk:TK} {τ:TH} {r:List (Nat × Ins) × TF × TK × TH},yg cf lv l t told fr tk τ = some r → yg cf' lv l t told fr tk τ = some r
 | .nil,told,fr,tk,τ,r,hx => hx
 | .cons k q,told,fr,tk,τ,r,hx => by
  simp only [yg] at hx ⊢
  obtain ⟨s,h1,h2⟩:=Option.bind_eq_some_iff.1 hx
  rw [yh h h1]
  exact n7 h h2
 | .alt k q j u,told,fr,tk,τ,r,hx => by
  simp only [yg] at hx ⊢
  obtain ⟨R1,h1,h2⟩:=Option.bind_eq_some_iff.1 hx
  obtain ⟨R2,h3,h4⟩:=Option.bind_eq_some_iff.1 h2
  obtain ⟨s1,g1,g2⟩:=Option.bind_eq_some_iff.1 h1
  obtain ⟨s2,g3,g4⟩:=Option.bind_eq_some_iff.1 h3
  rw [yh h g1,yh h g3]
  simp only [Option.bind_some]
  rw [n7 h g2,n7 h g4]
  exact h4
theorem zbog (h:CLe cf cf') {l:List (ap × List Nat)}:∀ {t:List (DTr Nat × List Nat)} {told:List (Nat × Ins)} {fr:TF} {tk:TK} {τ:TH} {r:TF × TK × TH},t9 cf l t told fr tk τ = some r → t9 cf' l t told fr tk τ = some r
 | [],told,fr,tk,τ,r,hx => hx
 | (t,lv) :: q,told,fr,tk,τ,r,hx => by
  simp only [t9] at hx ⊢
  obtain ⟨R,h1,h2⟩:=Option.bind_eq_some_iff.1 hx
  rw [n7 h h1]
  exact zbog h h2
theorem zb79 (h:CLe cf cf') (h':ELe ef ef'):ELe (bb (cf,ef)) (bb (cf',ef')):=by
 intro c fr tk τ x hx
 cases c with
 | skip => exact hx
 | ops l => simp only [bb] at hx ⊢; exact zbf2 (fun y hy => zbnu h hy) hx
 | draw l => simp only [bb] at hx ⊢; exact zbf2 (fun y hy => zbof h hy) hx
 | drawT l t => simp only [bb] at hx ⊢; exact zbf2 (fun y hy => zbog h hy) hx
 | seq a b =>
  simp only [bb] at hx ⊢
  split at hx
  · rename_i h1
    rw [h' _ _ _ _ _ h1]
    exact h' _ _ _ _ _ hx
  · rename_i hne
    rw [h' _ _ _ _ _ hx]
    split
    · rename_i h2; injection h2 with h2; subst h2; exact absurd hx (hne _ _ _)
    · rfl
 | cond c a b =>
  simp only [bb] at hx ⊢
  split at hx
  · exact h' _ _ _ _ _ hx
  · exact h' _ _ _ _ _ hx
  · cases hx
 | block id lv a =>
  simp only [bb] at hx ⊢
  split at hx
  · rename_i h1
    rw [h' _ _ _ _ _ h1]
    exact hx
  · cases hx
 | loop lv a =>
  simp only [bb] at hx ⊢
  split at hx
  · rename_i h1
    rw [h' _ _ _ _ _ h1]
    exact h' _ _ _ _ _ hx
  · rename_i hne
    rw [h' _ _ _ _ _ hx]
    split
    · rename_i h2; injection h2 with h2; subst h2; exact absurd hx (hne _ _ _)
    · rfl
 | exit id => exact hx
 | ret lv => exact hx
 | clean lv a => simp only [bb] at hx ⊢; exact h' _ _ _ _ _ hx
theorem zb76 (Γ:FuncId → Option TG) (h':ELe ef ef'):CLe (ku Γ (cf,ef)) (ku Γ (cf',ef')):=by
 intro f args τ x hx
 cases hq:Γ f with
 | none => simp only [ku,hq] at hx; cases hx
 | some g =>
  cases g with
  | prim g => simp only [ku,hq] at hx ⊢; exact hx
  | code fn =>
   simp only [ku,hq] at hx ⊢
   split at hx
   · rename_i hl
     rw [if_pos hl]
     split at hx
     · rename_i h1
       rw [h' _ _ _ _ _ h1]
       exact hx
     · cases hx
   · cases hx
end
section
variable (Γ:FuncId → Option TG)
theorem zbja:∀ k,CLe (a7 Γ k).1 (a7 Γ (k + 1)).1 ∧ ELe (a7 Γ k).2 (a7 Γ (k + 1)).2
 | 0 => ⟨fun _ _ _ _ h => (by cases h),fun _ _ _ _ _ h => (by cases h)⟩
 | k + 1 => ⟨zb76 Γ (zbja k).2,zb79 (zbja k).1 (zbja k).2⟩
theorem fg {k m:Nat} (h:k ≤ m):CLe (a7 Γ k).1 (a7 Γ m).1 ∧ ELe (a7 Γ k).2 (a7 Γ m).2:=by
 induction m with
 | zero =>
  obtain rfl:k = 0:=by omega
  exact ⟨.refl _,.refl _⟩
 | succ m ih =>
  by_cases hk:k = m + 1
  · subst hk; exact ⟨.refl _,.refl _⟩
  · obtain ⟨a,b⟩:=ih (by omega)
    exact ⟨a.trans (zbja Γ m).1,b.trans (zbja Γ m).2⟩
def Ru (f:FuncId) (args:List TV) (τ:TH) (r:TV) (τ':TH):Prop:=∃ k,(a7 Γ k).1 f args τ = some (r,τ')
abbrev ak:=TF → TK → TH → Prop
def tC (f:FuncId) (args:List TV) (τ:TH) (K:TV → TH → Prop):Prop:=∃ r τ',Ru Γ f args τ r τ' ∧ K r τ'
def tW (c:TC) (Q:TEx → ak):ak:=fun fr tk τ => ∃ k ex fr' tk' τ',(a7 Γ k).2 c fr tk τ = some (ex,fr',tk',τ') ∧ Q ex fr' tk' τ'
variable {Γ}
theorem Ru.det {f:FuncId} {args:List TV} {τ:TH} {r r':TV} {τ1 τ2:TH} (h:Ru Γ f args τ r τ1) (k:Ru Γ f args τ r' τ2):r = r' ∧ τ1 = τ2:=by
 obtain ⟨m,h⟩:=h
 obtain ⟨n,k⟩:=k
 have h1:=(fg Γ (Nat.le_max_left m n)).1 _ _ _ _ h
 have h2:=(fg Γ (Nat.le_max_right m n)).1 _ _ _ _ k
 rw [h1] at h2
 simpa using h2
theorem zbp5 {f:FuncId} {args:List TV} {τ:TH} {r:TV} {τ':TH} (h:Ru Γ f args τ r τ') (K:TV → TH → Prop):tC Γ f args τ K = K r τ':=by
 refine propext ⟨fun ⟨r2,τ2,h2,hK⟩ => ?_,fun hK => ⟨r,τ',h,hK⟩⟩
 obtain ⟨rfl,rfl⟩:=h.det h2
 exact hK
def d9 (Γ:FuncId → Option TG) (lk:Bool) (f:FuncId) (args:List TV) (d:Option Nat) (K:ak) (fr:TF) (tk:TK) (τ:TH):Prop :=
 eo τ.next args = true ∧ tC Γ f args (bif lk then τ.locked τ.next else τ) fun r τ' => K (dh fr d r) tk (bif lk then τ'.locked τ.lock else τ')
def zbm5 (Γ:FuncId → Option TG) (f:FuncId) (args:Option (List TV)) (d:Option Nat) (K:ak) (fr:TF) (tk:TK) (τ:TH):Prop :=
 match args with
 | some as => tC Γ f as ⟨[],0⟩ fun r _ => r.flat = true ∧ K (dh fr d r) tk τ
 | none => False
def opK (o:Option (TV × TK × TH)) (d:Option Nat) (K:ak) (fr:TF):Prop:=match o with | some (v,tk,τ) => K (dh fr d v) tk τ | none => False
def tG (Γ:FuncId → Option TG) (dr:Bool) (i:I) (m:Nat) (d:Option Nat) (K:ak) (fr:TF) (tk:TK) (τ:TH):Prop :=
 match i with
 | .call f args => if m = 1 then zbm5 Γ f (fi (tfz τ 0) (args.map (tO fr))) d K fr tk τ else d9 Γ dr f (args.map fun a => (tO fr a).canT) d K fr tk τ
 | .callW f args => d9 Γ false f (args.map fun a => (tO fr a).canT) d K fr tk τ
 | .callv x args => match tO fr x with
  | .func f a b => d9 Γ dr f (a ++ (args.map fun a => (tO fr a).canT) ++ b) d K fr tk τ
  | _ => False
 | .callvW x args => match tO fr x with
  | .func f a b => d9 Γ false f (a ++ (args.map fun a => (tO fr a).canT) ++ b) d K fr tk τ
  | _ => False
 | .fieldAddr off x => opK (tOp (.fieldAddr off x) m (ky (.fieldAddr off x) m fr τ).1 tk (ky (.fieldAddr off x) m fr τ).2) d K (ky (.fieldAddr off x) m fr τ).1
 | .store n y x => opK (tOp (.store n y x) m (ky (.store n y x) m fr τ).1 tk (ky (.store n y x) m fr τ).2) d K (ky (.store n y x) m fr τ).1
 | i => opK (tOp i m fr tk τ) d K fr
def gdK (Γ:FuncId → Option TG) (dr:Bool) (v:TV) (b:Bool) (i:I) (m:Nat) (d:Option Nat) (K:ak) (fr:TF) (tk:TK) (τ:TH):Prop :=
 match v with
 | .bool c => if c = b then tG Γ dr i m d K fr tk τ else K (dh fr d (.tup [])) tk τ
 | .tup [] => K (dh fr d (.tup [])) tk τ
 | _ => False
def tL (Γ:FuncId → Option TG):List ap → ak → ak
 | [],K => K
 | ⟨⟨d,i,none⟩,m⟩ :: r,K => fun fr tk τ => tG Γ false i m d (tL Γ r K) fr tk τ
 | ⟨⟨d,i,some (t,b)⟩,m⟩ :: r,K => fun fr tk τ => gdK Γ false (lkp fr t) b i m d (tL Γ r K) fr tk τ
def pnK (x:ap) (k:Nat) (fr:TF) (τ:TH) (told:List (Nat × Ins)) (ys:List Nat) (K:List (Nat × Ins) → ak):ak:=fun fr' tk τ' => (ys.all (fun j => (eh x k (ky x.x.i x.m fr τ).1 (ky x.x.i x.m fr τ).2 fr' τ' told).any fun p => p.1 == j) = true) ∧ K (eh x k (ky x.x.i x.m fr τ).1 (ky x.x.i x.m fr τ).2 fr' τ' told) fr' tk τ'
def tD (Γ:FuncId → Option TG):Nat → List (ap × List Nat) → ak → List (Nat × Ins) → ak
 | _,[],K,_ => K
 | k,(x,ys) :: r,K,told => fun fr tk τ => match x.x.guard with
  | none => tG Γ true x.x.i x.m x.x.dst (pnK x k fr τ told ys (tD Γ (k + 1) r K)) fr tk τ
  | some (t,b) => gdK Γ true (lkp fr t) b x.x.i x.m x.x.dst (pnK x k fr τ told ys (tD Γ (k + 1) r K)) fr tk τ
def pnT (l:List (ap × List Nat)) (x:ap) (k:Nat) (fr:TF) (τ:TH) (told:List (Nat × Ins)) (ys:List Nat) (K:List (Nat × Ins) → ak):ak:=fun fr' tk τ' => (ys.all (fun j => (eh x k (ky x.x.i x.m fr τ).1 (ky x.x.i x.m fr τ).2 fr' τ' told).any (fun p => p.1 == j) || zbm4 fr' (pq l j)) = true) ∧ K (eh x k (ky x.x.i x.m fr τ).1 (ky x.x.i x.m fr τ).2 fr' τ' told) fr' tk τ'
def tS (Γ:FuncId → Option TG) (l:List (ap × List Nat)) (o:Option (ap × List Nat)) (k:Nat) (told:List (Nat × Ins)) (K:List (Nat × Ins) → ak):ak:=fun fr tk τ => match o with
 | some (x,ys) => match x.x.guard with
  | none => tG Γ true x.x.i x.m x.x.dst (pnT l x k fr τ told ys K) fr tk τ
  | some (t,b) => gdK Γ true (lkp fr t) b x.x.i x.m x.x.dst (pnT l x k fr τ told ys K) fr tk τ
 | none => False
def tT (Γ:FuncId → Option TG) (lv:List Nat) (l:List (ap × List Nat)):DTr Nat → (List (Nat × Ins) → ak) → List (Nat × Ins) → ak
 | .nil,K,told => K told
 | .cons k r,K,told => tS Γ l l[k]? k told (tT Γ lv l r K)
 | .alt k r j q,K,told => fun fr tk τ => tS Γ l l[k]? k told (tT Γ lv l r fun told1 fr1 tk1 τ1 => tS Γ l l[j]? j told (tT Γ lv l q fun told2 fr2 tk2 τ2 => (sel lv fr1 = sel lv fr2 ∧ tk1 = tk2 ∧ τ1 = τ2) ∧ K (told1.filter fun p => told2.any fun q => q.1 == p.1) fr1 tk1 τ1) fr tk τ) fr tk τ
def tSg (Γ:FuncId → Option TG) (l:List (ap × List Nat)):List (DTr Nat × List Nat) → ak → List (Nat × Ins) → ak
 | [],K,_ => K
 | (t,lv) :: r,K,told => tT Γ lv l t (fun told' fr' tk' τ' => tSg Γ l r K told' (sel lv fr') tk' τ') told
def zacw (n:ak) (Q:TEx → ak):TEx → ak
 | .normal => n
 | e => Q e
def qa (id:Nat) (lv:List Nat) (tk:TK) (τ:TH) (Q:TEx → ak):TEx → ak:=fun e fr' tk' τ' =>
 if e = .normal ∨ e = .exit id then Q .normal (lm lv tk τ fr' tk' τ').1 (lm lv tk τ fr' tk' τ').2.1 (lm lv tk τ fr' tk' τ').2.2 else Q e fr' tk' τ'
def za8q (Γ:FuncId → Option TG) (lv:List Nat) (a:TC) (tk:TK) (τ:TH) (Q:TEx → ak):TEx → ak
 | .normal => fun fr' tk' τ' => tW Γ (.loop lv a) Q (lm lv tk τ fr' tk' τ').1 (lm lv tk τ fr' tk' τ').2.1 (lm lv tk τ fr' tk' τ').2.2
 | e => Q e
def cT (Γ:FuncId → Option TG) (v:TV) (a b:TC) (Q:TEx → ak) (fr:TF) (tk:TK) (τ:TH):Prop :=
 match v with
 | .bool c => if c = true then tW Γ a Q fr tk τ else tW Γ b Q fr tk τ
 | _ => False
def zbb6 (rs:List R) (fz:Bool) (τ:TH) (K:TV → TH → Prop):TEx → ak:=fun e fr tk τ' =>
 (e = .normal ∨ e = .ret) ∧ match ek rs fr τ' with
  | some v => if fz = true then (match tfz τ' τ.next v with | some u => K u (τ'.cut τ.next) | none => False) else if v.canT.under τ.next then K v.canT (τ'.cut τ.next) else v.canT.under τ'.next = true ∧ K v.canT τ'
  | none => False
section
variable {fr:TF} {tk:TK} {τ:TH}
theorem zbl0 {lk:Bool} {f:FuncId} {args:List TV} {d:Option Nat} {K:ak}:d9 Γ lk f args d K fr tk τ ↔ ∃ k v tk' τ',tu (a7 Γ k).1 lk f args tk τ = some (v,tk',τ') ∧ K (dh fr d v) tk' τ':=by
 unfold d9 tC Ru tu
 by_cases hu:eo τ.next args = true
 · simp only [hu,if_true,true_and]
   cases lk
   · constructor
     · rintro ⟨r,τ',⟨k,h⟩,hK⟩
       exact ⟨k,r,tk,τ',by simp only [cond_false] at h ⊢; rw [h]; rfl,hK⟩
     · rintro ⟨k,v,tk',τ',h,hK⟩
       simp only [cond_false] at h
       obtain ⟨⟨r,τ2⟩,h1,h2⟩:=Option.map_eq_some_iff.1 h
       simp only [Prod.mk.injEq] at h2
       obtain ⟨rfl,rfl,rfl⟩:=h2
       exact ⟨r,τ2,⟨k,h1⟩,hK⟩
   · constructor
     · rintro ⟨r,τ',⟨k,h⟩,hK⟩
       exact ⟨k,r,tk,τ'.locked τ.lock,by simp only [cond_true] at h ⊢; rw [h]; rfl,hK⟩
     · rintro ⟨k,v,tk',τ',h,hK⟩
       simp only [cond_true] at h
       obtain ⟨⟨r,τ2⟩,h1,h2⟩:=Option.map_eq_some_iff.1 h
       simp only [Prod.mk.injEq] at h2
       obtain ⟨rfl,rfl,rfl⟩:=h2
       exact ⟨r,τ2,⟨k,h1⟩,hK⟩
 · simp [hu]
theorem zbcs {f:FuncId} {args:List TV} {d:Option Nat} {K:ak}:zbm5 Γ f (fi (tfz τ 0) args) d K fr tk τ ↔ ∃ k v tk' τ',zbdw (a7 Γ k).1 f args tk τ = some (v,tk',τ') ∧ K (dh fr d v) tk' τ':=by
 unfold zbm5 tC Ru zbdw
 cases ha:fi (tfz τ 0) args with
 | none => simp
 | some as =>
  simp only [Option.bind_some]
  constructor
  · rintro ⟨r,τ2,⟨k,h⟩,hf,hK⟩
    exact ⟨k,r,tk,τ,by rw [h,Option.bind_some,if_pos hf],hK⟩
  · rintro ⟨k,v,tk',τ',h,hK⟩
    obtain ⟨⟨r,τ2⟩,h1,h2⟩:=Option.bind_eq_some_iff.1 h
    split at h2
    · rename_i hf
      simp only [Option.some.injEq,Prod.mk.injEq] at h2
      obtain ⟨rfl,rfl,rfl⟩:=h2
      exact ⟨r,τ2,⟨k,h1⟩,hf,hK⟩
    · cases h2
theorem zbj2 {dr:Bool} {i:I} {m:Nat} {d:Option Nat} {g:Option (Nat × Bool)} {K:ak}:tG Γ dr i m d K fr tk τ ↔ ∃ k v tk' τ',ca (a7 Γ k).1 dr ⟨⟨d,i,g⟩,m⟩ (ky i m fr τ).1 tk (ky i m fr τ).2 = some (v,tk',τ') ∧ K (dh (ky i m fr τ).1 d v) tk' τ':=by
 have op:∀ (fr:TF) (τ:TH),opK (tOp i m fr tk τ) d K fr ↔ ∃ (_:Nat) (v:TV) (tk':TK) (τ':TH),tOp i m fr tk τ = some (v,tk',τ') ∧ K (dh fr d v) tk' τ':=fun fr τ => by
  unfold opK
  cases h:tOp i m fr tk τ with
  | none => simp
  | some x =>
   obtain ⟨v,tk',τ'⟩:=x
   constructor
   · intro hK; exact ⟨0,v,tk',τ',rfl,hK⟩
   · rintro ⟨_,v2,tk2,τ2,h,hK⟩
     simp only [Option.some.injEq,Prod.mk.injEq] at h
     obtain ⟨rfl,rfl,rfl⟩:=h
     exact hK
 have pre:(∀ o a,i ≠ .fieldAddr o a) → (∀ n y x,i ≠ .store n y x) → ky i m fr τ = (fr,τ):=fun h h2 => by
  unfold ky
  split
  · split
    · exact absurd rfl (h _ _)
    · exact absurd rfl (h2 _ _ _)
    · rfl
  · rfl
 cases i with
 | call f args =>
  rw [pre (by simp) (by simp)]
  simp only [tG,ca]
  by_cases hm:m = 1
  · simp only [hm,if_true]; exact zbcs
  · simp only [hm,if_false]; exact zbl0
 | callW f args => rw [pre (by simp) (by simp)]; exact zbl0
 | callv x args =>
  rw [pre (by simp) (by simp)]
  simp only [tG,ca]
  cases hx:tO fr x with
  | func f a b => exact zbl0
  | _ => simp
 | callvW x args =>
  rw [pre (by simp) (by simp)]
  simp only [tG,ca]
  cases hx:tO fr x with
  | func f a b => exact zbl0
  | _ => simp
 | fieldAddr off x => exact op (ky (.fieldAddr off x) m fr τ).1 (ky (.fieldAddr off x) m fr τ).2
 | store n y x => exact op (ky (.store n y x) m fr τ).1 (ky (.store n y x) m fr τ).2
 | _ => rw [pre (by simp) (by simp)]; exact op fr τ
theorem zbpn {dr:Bool} {x:ap} {K:ak}:(match x.x.guard with | none => tG Γ dr x.x.i x.m x.x.dst K fr tk τ | some (t,b) => gdK Γ dr (lkp fr t) b x.x.i x.m x.x.dst K fr tk τ) ↔ ∃ k fr' tk' τ',ey (a7 Γ k).1 dr x fr tk τ = some (fr',tk',τ') ∧ K fr' tk' τ':=by
 obtain ⟨⟨d,i,g⟩,m⟩:=x
 have go:tG Γ dr i m d K fr tk τ ↔ ∃ k fr' tk' τ',tGo (a7 Γ k).1 dr ⟨⟨d,i,g⟩,m⟩ fr tk τ = some (fr',tk',τ') ∧ K fr' tk' τ':=by
  rw [zbj2 (g:=g)]
  constructor
  · rintro ⟨k,v,tk',τ',h,hK⟩
    exact ⟨k,_,tk',τ',by unfold tGo; rw [h]; rfl,hK⟩
  · rintro ⟨k,fr',tk',τ',h,hK⟩
    obtain ⟨⟨v,tk2,τ2⟩,h1,h2⟩:=Option.map_eq_some_iff.1 h
    simp only [Prod.mk.injEq] at h2
    obtain ⟨rfl,rfl,rfl⟩:=h2
    exact ⟨k,v,tk2,τ2,h1,hK⟩
 have sk:K (dh fr d (.tup [])) tk τ ↔ ∃ (k:Nat) (fr':TF) (tk':TK) (τ':TH),some (dh fr d (.tup []),tk,τ) = some (fr',tk',τ') ∧ K fr' tk' τ':=by
  constructor
  · intro hK; exact ⟨0,_,_,_,rfl,hK⟩
  · rintro ⟨_,fr',tk',τ',h,hK⟩
    simp only [Option.some.injEq,Prod.mk.injEq] at h
    obtain ⟨rfl,rfl,rfl⟩:=h
    exact hK
 cases g with
 | none => simp only [ey]; exact go
 | some tb =>
  obtain ⟨t,b⟩:=tb
  simp only [ey,gdK]
  cases hv:lkp fr t with
  | bool c =>
   by_cases hc:c = b
   · simp only [hc,if_true]; exact go
   · simp only [hc,if_false]; exact sk
  | tup cs =>
   cases cs with
   | nil => exact sk
   | cons => simp
  | _ => simp
theorem zamb:∀ {l:List ap} {K:ak} {fr:TF} {tk:TK} {τ:TH},tL Γ l K fr tk τ ↔ ∃ k fr' tk' τ',r9 (a7 Γ k).1 l fr tk τ = some (fr',tk',τ') ∧ K fr' tk' τ'
 | [],K,fr,tk,τ => by
  simp only [tL,r9]
  constructor
  · intro h; exact ⟨0,fr,tk,τ,rfl,h⟩
  · rintro ⟨_,fr',tk',τ',h,hK⟩
    simp only [Option.some.injEq,Prod.mk.injEq] at h
    obtain ⟨rfl,rfl,rfl⟩:=h
    exact hK
 | x :: r,K,fr,tk,τ => by
  have e:tL Γ (x :: r) K fr tk τ = (match x.x.guard with | none => tG Γ false x.x.i x.m x.x.dst (tL Γ r K) fr tk τ | some (t,b) => gdK Γ false (lkp fr t) b x.x.i x.m x.x.dst (tL Γ r K) fr tk τ):=by
   obtain ⟨⟨d,i,g⟩,m⟩:=x
   cases g with
   | none => rfl
   | some tb => rfl
  rw [e,zbpn]
  constructor
  · rintro ⟨k,fr1,tk1,τ1,h1,h2⟩
    obtain ⟨k2,fr',tk',τ',h3,hK⟩:=zamb.1 h2
    refine ⟨max k k2,fr',tk',τ',?_,hK⟩
    simp only [r9]
    rw [zbi4 (fg Γ (Nat.le_max_left k k2)).1 h1]
    exact zbnu (fg Γ (Nat.le_max_right k k2)).1 h3
  · rintro ⟨k,fr',tk',τ',h,hK⟩
    simp only [r9] at h
    split at h
    · rename_i fr1 tk1 τ1 h1
      exact ⟨k,fr1,tk1,τ1,h1,zamb.2 ⟨k,fr',tk',τ',h,hK⟩⟩
    · cases h
theorem zams:∀ {l:List (ap × List Nat)} {n:Nat} {told:List (Nat × Ins)} {K:ak} {fr:TF} {tk:TK} {τ:TH},tD Γ n l K told fr tk τ ↔ ∃ k fr' tk' τ',py (a7 Γ k).1 n l told fr tk τ = some (fr',tk',τ') ∧ K fr' tk' τ'
 | [],n,told,K,fr,tk,τ => by
  simp only [tD,py]
  constructor
  · intro h; exact ⟨0,fr,tk,τ,rfl,h⟩
  · rintro ⟨_,fr',tk',τ',h,hK⟩
    simp only [Option.some.injEq,Prod.mk.injEq] at h
    obtain ⟨rfl,rfl,rfl⟩:=h
    exact hK
 | (x,ys) :: r,n,told,K,fr,tk,τ => by
  simp only [tD]
  rw [zbpn]
  constructor
  · rintro ⟨k,fr1,tk1,τ1,h1,hy,h2⟩
    obtain ⟨k2,fr',tk',τ',h3,hK⟩:=zams.1 h2
    refine ⟨max k k2,fr',tk',τ',?_,hK⟩
    simp only [py]
    rw [zbi4 (fg Γ (Nat.le_max_left k k2)).1 h1]
    simp only [hy,if_true]
    exact zbof (fg Γ (Nat.le_max_right k k2)).1 h3
  · rintro ⟨k,fr',tk',τ',h,hK⟩
    simp only [py] at h
    split at h
    · rename_i fr1 tk1 τ1 h1
      split at h
      · rename_i hy
        exact ⟨k,fr1,tk1,τ1,h1,hy,zams.2 ⟨k,fr',tk',τ',h,hK⟩⟩
      · cases h
    · cases h
theorem zbmx {o:List (ap × List Nat)} {n:Nat} {told:List (Nat × Ins)} {K:List (Nat × Ins) → ak} {fr:TF} {tk:TK} {τ:TH}:tS Γ o o[n]? n told K fr tk τ ↔ ∃ k t' fr' tk' τ',r8 (a7 Γ k).1 o n told fr tk τ = some (t',fr',tk',τ') ∧ K t' fr' tk' τ':=by
 unfold tS r8
 cases ho:o[n]? with
 | none => simp
 | some p =>
  obtain ⟨x,ys⟩:=p
  simp only
  rw [zbpn]
  constructor
  · rintro ⟨k,fr1,tk1,τ1,h1,hy,h2⟩
    exact ⟨k,_,fr1,tk1,τ1,by rw [h1]; simp only [hy,if_true],h2⟩
  · rintro ⟨k,t',fr',tk',τ',h,hK⟩
    split at h
    · rename_i fr1 tk1 τ1 h1
      split at h
      · rename_i hy
        simp only [Option.some.injEq,Prod.mk.injEq] at h
        obtain ⟨rfl,rfl,rfl,rfl⟩:=h
        exact ⟨k,_,_,_,h1,hy,hK⟩
      · cases h
    · cases h
theorem zbfx {lv:List Nat} {l:List (ap × List Nat)}:∀ {t:DTr Nat} {told:List (Nat × Ins)} {K:List (Nat × Ins) → ak} {fr:TF} {tk:TK} {τ:TH},tT Γ lv l t K told fr tk τ ↔ ∃ k t' fr' tk' τ',yg (a7 Γ k).1 lv l t told fr tk τ = some (t',fr',tk',τ') ∧ K t' fr' tk' τ'
 | .nil,told,K,fr,tk,τ => by
  simp only [tT,yg]
  constructor
  · intro h; exact ⟨0,told,fr,tk,τ,rfl,h⟩
  · rintro ⟨_,t',fr',tk',τ',h,hK⟩
    simp only [Option.some.injEq,Prod.mk.injEq] at h
    obtain ⟨rfl,rfl,rfl,rfl⟩:=h
    exact hK
 | .cons n r,told,K,fr,tk,τ => by
  simp only [tT,yg]
  rw [zbmx]
  constructor
  · rintro ⟨k,t1,f1,k1,o1,h1,h2⟩
    obtain ⟨k2,t',fr',tk',τ',h3,hK⟩:=zbfx.1 h2
    refine ⟨max k k2,t',fr',tk',τ',?_,hK⟩
    rw [yh (fg Γ (Nat.le_max_left k k2)).1 h1]
    exact n7 (fg Γ (Nat.le_max_right k k2)).1 h3
  · rintro ⟨k,t',fr',tk',τ',h,hK⟩
    obtain ⟨⟨t1,f1,k1,o1⟩,h1,h2⟩:=Option.bind_eq_some_iff.1 h
    exact ⟨k,t1,f1,k1,o1,h1,zbfx.2 ⟨k,t',fr',tk',τ',h2,hK⟩⟩
 | .alt n r m q,told,K,fr,tk,τ => by
  simp only [tT,yg]
  rw [zbmx]
  constructor
  · rintro ⟨k,t1,f1,k1,o1,h1,h2⟩
    obtain ⟨k2,u1,fr1,tk1,τ1,h3,h4⟩:=zbfx.1 h2
    obtain ⟨k3,t2,f2,l2,o2,h5,h6⟩:=zbmx.1 h4
    obtain ⟨k4,u2,fr2,tk2,τ2,h7,h8,hK⟩:=zbfx.1 h6
    refine ⟨max (max k k2) (max k3 k4),_,fr1,tk1,τ1,?_,hK⟩
    rw [yh (fg Γ (by omega)).1 h1,yh (fg Γ (by omega)).1 h5]
    simp only [Option.bind_some]
    rw [n7 (fg Γ (by omega)).1 h3,n7 (fg Γ (by omega)).1 h7]
    simp only [Option.bind_some]
    rw [if_pos h8]
  · rintro ⟨k,t',fr',tk',τ',h,hK⟩
    obtain ⟨R1,h1,h2⟩:=Option.bind_eq_some_iff.1 h
    obtain ⟨R2,h3,h4⟩:=Option.bind_eq_some_iff.1 h2
    obtain ⟨⟨t1,f1,k1,o1⟩,g1,g2⟩:=Option.bind_eq_some_iff.1 h1
    obtain ⟨⟨t2,f2,k2,o2⟩,g3,g4⟩:=Option.bind_eq_some_iff.1 h3
    split at h4
    · rename_i hc
      obtain ⟨u1,a1,b1,c1⟩:=R1
      obtain ⟨u2,a2,b2,c2⟩:=R2
      simp only [Option.some.injEq,Prod.mk.injEq] at h4
      obtain ⟨rfl,rfl,rfl,rfl⟩:=h4
      exact ⟨k,t1,f1,k1,o1,g1,zbfx.2 ⟨k,_,_,_,_,g2,zbmx.2 ⟨k,t2,f2,k2,o2,g3,zbfx.2 ⟨k,u2,a2,b2,c2,g4,hc,hK⟩⟩⟩⟩
    · cases h4
theorem zbpq {l:List (ap × List Nat)}:∀ {t:List (DTr Nat × List Nat)} {told:List (Nat × Ins)} {K:ak} {fr:TF} {tk:TK} {τ:TH},tSg Γ l t K told fr tk τ ↔ ∃ k fr' tk' τ',t9 (a7 Γ k).1 l t told fr tk τ = some (fr',tk',τ') ∧ K fr' tk' τ'
 | [],told,K,fr,tk,τ => by
  simp only [tSg,t9]
  constructor
  · intro h; exact ⟨0,fr,tk,τ,rfl,h⟩
  · rintro ⟨_,fr',tk',τ',h,hK⟩
    simp only [Option.some.injEq,Prod.mk.injEq] at h
    obtain ⟨rfl,rfl,rfl⟩:=h
    exact hK
 | (t,lv) :: r,told,K,fr,tk,τ => by
  simp only [tSg,t9]
  rw [zbfx]
  constructor
  · rintro ⟨k,t1,f1,k1,o1,h1,h2⟩
    obtain ⟨k2,fr',tk',τ',h3,hK⟩:=zbpq.1 h2
    refine ⟨max k k2,fr',tk',τ',?_,hK⟩
    rw [n7 (fg Γ (Nat.le_max_left k k2)).1 h1]
    exact zbog (fg Γ (Nat.le_max_right k k2)).1 h3
  · rintro ⟨k,fr',tk',τ',h,hK⟩
    obtain ⟨⟨t1,f1,k1,o1⟩,h1,h2⟩:=Option.bind_eq_some_iff.1 h
    exact ⟨k,t1,f1,k1,o1,h1,zbpq.2 ⟨k,fr',tk',τ',h2,hK⟩⟩
theorem ui {c:TC} {Q:TEx → ak}:tW Γ c Q fr tk τ ↔ ∃ k ex fr' tk' τ',bb (a7 Γ k) c fr tk τ = some (ex,fr',tk',τ') ∧ Q ex fr' tk' τ':=by
 constructor
 · rintro ⟨k,ex,fr',tk',τ',h,hQ⟩
   cases k with
   | zero => cases h
   | succ k => exact ⟨k,ex,fr',tk',τ',h,hQ⟩
 · rintro ⟨k,ex,fr',tk',τ',h,hQ⟩
   exact ⟨k + 1,ex,fr',tk',τ',h,hQ⟩
theorem zbng {Q:TEx → ak} {ex:TEx} {fr:TF} {tk:TK} {τ:TH}:(∃ (k:Nat) (ex':TEx) (fr':TF) (tk':TK) (τ':TH),some (ex,fr,tk,τ) = some (ex',fr',tk',τ') ∧ Q ex' fr' tk' τ') ↔ Q ex fr tk τ:=by
 constructor
 · rintro ⟨_,ex',fr',tk',τ',h,hQ⟩
   simp only [Option.some.injEq,Prod.mk.injEq] at h
   obtain ⟨rfl,rfl,rfl,rfl⟩:=h
   exact hQ
 · intro hQ; exact ⟨0,ex,fr,tk,τ,rfl,hQ⟩
theorem zbgf {Q:TEx → ak}:tW Γ .skip Q fr tk τ = Q .normal fr tk τ:=propext (ui.trans zbng)
theorem zbgh {Q:TEx → ak} {id:Nat}:tW Γ (.exit id) Q fr tk τ = Q (.exit id) fr tk τ:=propext (ui.trans zbng)
theorem zbj0 {Q:TEx → ak} {lv:List Nat}:tW Γ (.ret lv) Q fr tk τ = Q .ret (sel lv fr) tk τ:=propext (ui.trans zbng)
theorem zbj1 {Q:TEx → ak} {l:List ap}:tW Γ (.ops l) Q fr tk τ = tL Γ l (Q .normal) fr tk τ:=by
 refine propext (ui.trans ?_)
 rw [zamb]
 constructor
 · rintro ⟨k,ex,fr',tk',τ',h,hQ⟩
   simp only [bb] at h
   obtain ⟨⟨q1,q2,q3⟩,ho,hq⟩:=Option.map_eq_some_iff.1 h
   simp only [Prod.mk.injEq] at hq
   obtain ⟨rfl,rfl,rfl,rfl⟩:=hq
   exact ⟨k,_,_,_,ho,hQ⟩
 · rintro ⟨k,fr',tk',τ',h,hQ⟩
   exact ⟨k,.normal,fr',tk',τ',by simp only [bb,h]; rfl,hQ⟩
theorem zbbu {Q:TEx → ak} {l:List (ap × List Nat)} {t:List (DTr Nat × List Nat)}:tW Γ (.drawT l t) Q fr tk τ = tSg Γ l t (Q .normal) [] fr tk τ:=by
 refine propext (ui.trans ?_)
 rw [zbpq]
 constructor
 · rintro ⟨k,ex,fr',tk',τ',h,hQ⟩
   simp only [bb] at h
   obtain ⟨⟨q1,q2,q3⟩,ho,hq⟩:=Option.map_eq_some_iff.1 h
   simp only [Prod.mk.injEq] at hq
   obtain ⟨rfl,rfl,rfl,rfl⟩:=hq
   exact ⟨k,_,_,_,ho,hQ⟩
 · rintro ⟨k,fr',tk',τ',h,hQ⟩
   exact ⟨k,.normal,fr',tk',τ',by simp only [bb,h]; rfl,hQ⟩
theorem zbgi {Q:TEx → ak} {l:List (ap × List Nat)}:tW Γ (.draw l) Q fr tk τ = tD Γ 0 l (Q .normal) [] fr tk τ:=by
 refine propext (ui.trans ?_)
 rw [zams]
 constructor
 · rintro ⟨k,ex,fr',tk',τ',h,hQ⟩
   simp only [bb] at h
   obtain ⟨⟨q1,q2,q3⟩,ho,hq⟩:=Option.map_eq_some_iff.1 h
   simp only [Prod.mk.injEq] at hq
   obtain ⟨rfl,rfl,rfl,rfl⟩:=hq
   exact ⟨k,_,_,_,ho,hQ⟩
 · rintro ⟨k,fr',tk',τ',h,hQ⟩
   exact ⟨k,.normal,fr',tk',τ',by simp only [bb,h]; rfl,hQ⟩
theorem zbjz {Q:TEx → ak} {a b:TC}:tW Γ (.seq a b) Q fr tk τ = tW Γ a (zacw (tW Γ b Q) Q) fr tk τ:=by
 refine propext (ui.trans ?_)
 constructor
 · rintro ⟨k,ex,fr',tk',τ',h,hQ⟩
   simp only [bb] at h
   split at h
   · rename_i fr1 tk1 τ1 h1
     exact ⟨k,.normal,fr1,tk1,τ1,h1,⟨k,ex,fr',tk',τ',h,hQ⟩⟩
   · rename_i hne
     refine ⟨k,ex,fr',tk',τ',h,?_⟩
     cases ex with
     | normal => exact absurd h (hne _ _ _)
     | exit id => exact hQ
     | ret => exact hQ
 · rintro ⟨k,ex,fr1,tk1,τ1,h,hQ⟩
   cases ex with
   | normal =>
    obtain ⟨k2,ex,fr',tk',τ',h2,hQ⟩:=hQ
    refine ⟨max k k2,ex,fr',tk',τ',?_,hQ⟩
    simp only [bb]
    rw [(fg Γ (Nat.le_max_left k k2)).2 _ _ _ _ _ h]
    exact (fg Γ (Nat.le_max_right k k2)).2 _ _ _ _ _ h2
   | exit id => exact ⟨k,.exit id,fr1,tk1,τ1,by simp only [bb,h],hQ⟩
   | ret => exact ⟨k,.ret,fr1,tk1,τ1,by simp only [bb,h],hQ⟩
theorem zbgj {Q:TEx → ak} {c:Operand} {a b:TC}:tW Γ (.cond c a b) Q fr tk τ = cT Γ (tO fr c) a b Q fr tk τ:=by
 refine propext (ui.trans ?_)
 unfold cT
 simp only [bb]
 cases hv:tO fr c with
 | bool t => cases t <;> simp [tW]
 | _ => simp
theorem zbbw {Q:TEx → ak} {id:Nat} {lv:List Nat} {a:TC}:tW Γ (.block id lv a) Q fr tk τ = tW Γ a (qa id lv tk τ Q) fr tk τ:=by
 refine propext (ui.trans ?_)
 constructor
 · rintro ⟨k,ex,fr',tk',τ',h,hQ⟩
   simp only [bb] at h
   split at h
   · rename_i ex1 fr1 tk1 τ1 h1
     refine ⟨k,ex1,fr1,tk1,τ1,h1,?_⟩
     unfold qa
     split at h
     · rename_i hx
       rw [if_pos hx]
       simp only [Option.some.injEq,Prod.mk.injEq] at h
       obtain ⟨rfl,h2⟩:=h
       rw [h2]; exact hQ
     · rename_i hx
       rw [if_neg hx]
       simp only [Option.some.injEq,Prod.mk.injEq] at h
       obtain ⟨rfl,rfl,rfl,rfl⟩:=h
       exact hQ
   · cases h
 · rintro ⟨k,ex,fr1,tk1,τ1,h,hQ⟩
   unfold qa at hQ
   split at hQ
   · rename_i hx
     exact ⟨k,.normal,_,_,_,by simp only [bb,h,if_pos hx],hQ⟩
   · rename_i hx
     exact ⟨k,ex,fr1,tk1,τ1,by simp only [bb,h,if_neg hx],hQ⟩
theorem zbgg {Q:TEx → ak} {lv:List Nat} {a:TC}:tW Γ (.loop lv a) Q fr tk τ = tW Γ a (za8q Γ lv a tk τ Q) (sel lv fr) tk τ:=by
 refine propext (ui.trans ?_)
 constructor
 · rintro ⟨k,ex,fr',tk',τ',h,hQ⟩
   simp only [bb] at h
   split at h
   · rename_i fr1 tk1 τ1 h1
     exact ⟨k,.normal,fr1,tk1,τ1,h1,⟨k,ex,fr',tk',τ',h,hQ⟩⟩
   · rename_i hne
     refine ⟨k,ex,fr',tk',τ',h,?_⟩
     cases ex with
     | normal => exact absurd h (hne _ _ _)
     | exit id => exact hQ
     | ret => exact hQ
 · rintro ⟨k,ex,fr1,tk1,τ1,h,hQ⟩
   cases ex with
   | normal =>
    obtain ⟨k2,ex,fr',tk',τ',h2,hQ⟩:=hQ
    refine ⟨max k k2,ex,fr',tk',τ',?_,hQ⟩
    simp only [bb]
    rw [(fg Γ (Nat.le_max_left k k2)).2 _ _ _ _ _ h]
    exact (fg Γ (Nat.le_max_right k k2)).2 _ _ _ _ _ h2
   | exit id => exact ⟨k,.exit id,fr1,tk1,τ1,by simp only [bb,h],hQ⟩
   | ret => exact ⟨k,.ret,fr1,tk1,τ1,by simp only [bb,h],hQ⟩
theorem zbbv {Q:TEx → ak} {lv:List Nat} {a:TC}:tW Γ (.clean lv a) Q fr tk τ = tW Γ a Q (sel lv fr) tk τ:=by
 refine propext (ui.trans ?_)
 simp only [bb]
 exact Iff.rfl
end
theorem cb {f:FuncId} {fn:TFn} (hf:Γ f = some (.code fn)) {args:List TV} (hl:args.length ≤ fn.n) {τ:TH} {K:TV → TH → Prop}:tC Γ f args τ K = tW Γ fn.c (zbb6 fn.rs fn.fz τ K) (zbbf 0 args) [] τ:=by
 refine propext ⟨?_,?_⟩
 · rintro ⟨r,τ',⟨k,h⟩,hK⟩
   cases k with
   | zero => cases h
   | succ k =>
    have h:ku Γ (a7 Γ k) f args τ = some (r,τ'):=h
    simp only [ku,hf,if_pos hl] at h
    split at h
    · rename_i ex fr tk τ1 h1
      refine ⟨k,ex,fr,tk,τ1,h1,?_⟩
      split at h
      · rename_i hx
        refine ⟨hx,?_⟩
        obtain ⟨v,hv,h⟩:=Option.bind_eq_some_iff.1 h
        simp only [hv]
        split at h
        · rename_i hz
          obtain ⟨u,hu,h⟩:=Option.bind_eq_some_iff.1 h
          simp only [Option.some.injEq,Prod.mk.injEq] at h
          obtain ⟨rfl,rfl⟩:=h
          rw [if_pos hz,hu]; exact hK
        rename_i hz
        rw [if_neg hz]
        split at h
        · rename_i hu
          simp only [Option.some.injEq,Prod.mk.injEq] at h
          obtain ⟨rfl,rfl⟩:=h
          rw [if_pos hu]; exact hK
        · rename_i hu
          split at h
          · rename_i hu2
            simp only [Option.some.injEq,Prod.mk.injEq] at h
            obtain ⟨rfl,rfl⟩:=h
            rw [if_neg hu]; exact ⟨hu2,hK⟩
          · cases h
      · cases h
    · cases h
 · rintro ⟨k,ex,fr,tk,τ1,h1,hx,h⟩
   cases hv:ek fn.rs fr τ1 with
   | none => rw [hv] at h; exact h.elim
   | some v =>
    rw [hv] at h
    simp only at h
    have run:∀ r τ',(if fn.fz = true then ((tfz τ1 τ.next v).bind fun u => some (u,τ1.cut τ.next)) else if v.canT.under τ.next then some (v.canT,τ1.cut τ.next) else if v.canT.under τ1.next then some (v.canT,τ1) else none) = some (r,τ') → Ru Γ f args τ r τ':=fun r τ' hr => by
     refine ⟨k + 1,?_⟩
     show ku Γ (a7 Γ k) f args τ = some (r,τ')
     simp only [ku,hf,if_pos hl,h1,if_pos hx,hv,Option.bind_some]
     exact hr
    split at h
    · rename_i hz
      split at h
      · rename_i u hu
        exact ⟨_,_,run u (τ1.cut τ.next) (by rw [if_pos hz,hu]; rfl),h⟩
      · exact h.elim
    rename_i hz
    split at h
    · rename_i hu
      exact ⟨_,_,run v.canT (τ1.cut τ.next) (by rw [if_neg hz,if_pos hu]),h⟩
    · rename_i hu
      exact ⟨_,_,run v.canT τ1 (by rw [if_neg hz,if_neg hu,if_pos h.1]),h.2⟩
theorem jn {f:FuncId} {args:List TV} {τ:TH} {r:TV} {τ':TH} (h:∀ K:TV → TH → Prop,K r τ' → tC Γ f args τ K):Ru Γ f args τ r τ':=by
 obtain ⟨r2,τ2,h1,rfl,rfl⟩:=h (fun r2 τ2 => r2 = r ∧ τ2 = τ') ⟨rfl,rfl⟩
 exact h1
theorem zboc {lk:Bool} {f:FuncId} {args:List TV} {r:TV} {d:Option Nat} {K:ak} {fr:TF} {tk:TK} {τ τ':TH} (h:Ru Γ f args (bif lk then τ.locked τ.next else τ) r τ') (hu:eo τ.next args = true) :
 d9 Γ lk f args d K fr tk τ = K (dh fr d r) tk (bif lk then τ'.locked τ.lock else τ'):=by
 unfold d9
 rw [zbp5 h]
 simp [hu]
end
end Go.Proofs.Ytgkkienmocpnbaa.Sh
