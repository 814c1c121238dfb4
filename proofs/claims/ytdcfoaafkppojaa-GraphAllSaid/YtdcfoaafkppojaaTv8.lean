import Derived.Test.YtdcfoaafkppojaaTv7
set_option linter.unusedVariables false
set_option linter.unusedSimpArgs false
/- The tree level: what runs, with as many rounds as it takes; its equations. -/
namespace Go.Proofs.Ytdcfoaafkppojaa.Sh
open Go Go.RowKit
def CLe (a b : CF) : Prop := ∀ f args τ x,a f args τ = some x → b f args τ = some x
def ELe (a b : EF) : Prop := ∀ c fr tk τ x,a c fr tk τ = some x → b c fr tk τ = some x
theorem CLe.refl (a : CF) : CLe a a := fun _ _ _ _ h => h
theorem ELe.refl (a : EF) : ELe a a := fun _ _ _ _ _ h => h
theorem CLe.trans {a b c : CF} (h : CLe a b) (k : CLe b c) : CLe a c := fun f args τ x q => k _ _ _ _ (h _ _ _ _ q)
theorem ELe.trans {a b c : EF} (h : ELe a b) (k : ELe b c) : ELe a c := fun f args tk τ x q => k _ _ _ _ _ (h _ _ _ _ _ q)
section
variable {cf cf' : CF} {ef ef' : EF}
theorem zb4q {α β : Type} {a b : Option α} {f : α → β} {x : β} (h : ∀ y,a = some y → b = some y) (hx : a.map f = some x) : b.map f = some x := by
 obtain ⟨y,hy,rfl⟩ := Option.map_eq_some_iff.1 hx
 rw [h y hy]; rfl
theorem zcaq (h : CLe cf cf') {lk : Bool} {f : FuncId} {args : List TV} {tk : TK} {τ : TH} {x : TV × TK × TH} (hx : zbo5 cf lk f args tk τ = some x) : zbo5 cf' lk f args tk τ = some x := by
 unfold zbo5 at *
 split at hx
 · rename_i hu
   rw [if_pos hu]
   cases lk
   · exact zb4q (fun y hy => h _ _ _ _ hy) hx
   · exact zb4q (fun y hy => h _ _ _ _ hy) hx
 · cases hx
theorem zbp9 (h : CLe cf cf') {f : FuncId} {args : List TV} {tk : TK} {τ : TH} {x : TV × TK × TH} (hx : zbzt cf f args tk τ = some x) : zbzt cf' f args tk τ = some x := by
 unfold zbzt at *
 obtain ⟨as,h1,hx⟩ := Option.bind_eq_some_iff.1 hx
 obtain ⟨p,h2,hx⟩ := Option.bind_eq_some_iff.1 hx
 rw [h1,Option.bind_some,h _ _ _ _ h2,Option.bind_some]
 exact hx
theorem zc4e (h : CLe cf cf') {dr : Bool} {x : ak} {fr : TF} {tk : TK} {τ : TH} {r : TV × TK × TH} (hx : zblz cf dr x fr tk τ = some r) : zblz cf' dr x fr tk τ = some r := by
 unfold zblz at *
 split at hx
 · split at hx
   · rename_i hm; simp only [hm,if_true] at hx ⊢; exact zbp9 h hx
   · rename_i hm; simp only [hm,if_false] at hx ⊢; exact zcaq h hx
 · exact zcaq h hx
 · split at hx
   · exact zcaq h hx
   · cases hx
 · split at hx
   · exact zcaq h hx
   · cases hx
 · exact hx
theorem zcai (h : CLe cf cf') {dr : Bool} {x : ak} {fr : TF} {tk : TK} {τ : TH} {r : TF × TK × TH} (hx : zbm8 cf dr x fr tk τ = some r) : zbm8 cf' dr x fr tk τ = some r := by
 unfold zbm8 tGo at *
 split at hx
 · exact zb4q (fun y hy => zc4e h hy) hx
 · split at hx
   · split at hx
     · rename_i hc; simp only [hc,if_true]; exact zb4q (fun y hy => zc4e h hy) hx
     · rename_i hc; simp only [hc,if_false]; exact hx
   · exact hx
   · cases hx
theorem zcha (h : CLe cf cf') : ∀ {l : List ak} {fr : TF} {tk : TK} {τ : TH} {r : TF × TK × TH},zbow cf l fr tk τ = some r → zbow cf' l fr tk τ = some r
 | [],fr,tk,τ,r,hx => hx
 | x :: l,fr,tk,τ,r,hx => by
  simp only [zbow] at hx ⊢
  split at hx
  · rename_i h1
    rw [zcai h h1]
    exact zcha h hx
  · cases hx
theorem zcc5 (h : CLe cf cf') : ∀ {l : List (ak × List Nat)} {k : Nat} {told : List (Nat × Ins)} {fr : TF} {tk : TK} {τ : TH} {r : TF × TK × TH},zboj cf k l told fr tk τ = some r → zboj cf' k l told fr tk τ = some r
 | [],k,told,fr,tk,τ,r,hx => hx
 | (x,ys) :: l,k,told,fr,tk,τ,r,hx => by
  simp only [zboj] at hx ⊢
  split at hx
  · rename_i h1
    rw [zcai h h1]
    split at hx
    · rename_i hc; simp only [hc,if_true]; exact zcc5 h hx
    · cases hx
  · cases hx
theorem zdei (h : CLe cf cf') (h' : ELe ef ef') : ELe (ch (cf,ef)) (ch (cf',ef')) := by
 intro c fr tk τ x hx
 cases c with
 | skip => exact hx
 | ops l => simp only [ch] at hx ⊢; exact zb4q (fun y hy => zcha h hy) hx
 | draw l => simp only [ch] at hx ⊢; exact zb4q (fun y hy => zcc5 h hy) hx
 | seq a b =>
  simp only [ch] at hx ⊢
  split at hx
  · rename_i h1
    rw [h' _ _ _ _ _ h1]
    exact h' _ _ _ _ _ hx
  · rename_i hne
    rw [h' _ _ _ _ _ hx]
    split
    · rename_i h2; injection h2 with h2; subst h2; exact absurd hx (hne _ _ _)
    · rfl
 | cond c a b =>
  simp only [ch] at hx ⊢
  split at hx
  · exact h' _ _ _ _ _ hx
  · exact h' _ _ _ _ _ hx
  · cases hx
 | block id lv a =>
  simp only [ch] at hx ⊢
  split at hx
  · rename_i h1
    rw [h' _ _ _ _ _ h1]
    exact hx
  · cases hx
 | loop lv a =>
  simp only [ch] at hx ⊢
  split at hx
  · rename_i h1
    rw [h' _ _ _ _ _ h1]
    exact h' _ _ _ _ _ hx
  · rename_i hne
    rw [h' _ _ _ _ _ hx]
    split
    · rename_i h2; injection h2 with h2; subst h2; exact absurd hx (hne _ _ _)
    · rfl
 | exit id => exact hx
 | ret lv => exact hx
 | clean lv a => simp only [ch] at hx ⊢; exact h' _ _ _ _ _ hx
theorem zdeg (Γ : FuncId → Option TG) (h' : ELe ef ef') : CLe (sr Γ (cf,ef)) (sr Γ (cf',ef')) := by
 intro f args τ x hx
 cases hq : Γ f with
 | none => simp only [sr,hq] at hx; cases hx
 | some g =>
  cases g with
  | prim g => simp only [sr,hq] at hx ⊢; exact hx
  | code fn =>
   simp only [sr,hq] at hx ⊢
   split at hx
   · rename_i hl
     rw [if_pos hl]
     split at hx
     · rename_i h1
       rw [h' _ _ _ _ _ h1]
       exact hx
     · cases hx
   · cases hx
end
section
variable (Γ : FuncId → Option TG)
theorem zb6r : ∀ k,CLe (zbih Γ k).1 (zbih Γ (k + 1)).1 ∧ ELe (zbih Γ k).2 (zbih Γ (k + 1)).2
 | 0 => ⟨fun _ _ _ _ h => (by cases h),fun _ _ _ _ _ h => (by cases h)⟩
 | k + 1 => ⟨zdeg Γ (zb6r k).2,zdei (zb6r k).1 (zb6r k).2⟩
theorem xe {k m : Nat} (h : k ≤ m) : CLe (zbih Γ k).1 (zbih Γ m).1 ∧ ELe (zbih Γ k).2 (zbih Γ m).2 := by
 induction m with
 | zero =>
  obtain rfl : k = 0 := by omega
  exact ⟨.refl _,.refl _⟩
 | succ m ih =>
  by_cases hk : k = m + 1
  · subst hk; exact ⟨.refl _,.refl _⟩
  · obtain ⟨a,b⟩ := ih (by omega)
    exact ⟨a.trans (zb6r Γ m).1,b.trans (zb6r Γ m).2⟩
def Ru (f : FuncId) (args : List TV) (τ : TH) (r : TV) (τ' : TH) : Prop := ∃ k,(zbih Γ k).1 f args τ = some (r,τ')
abbrev au := TF → TK → TH → Prop
def tC (f : FuncId) (args : List TV) (τ : TH) (K : TV → TH → Prop) : Prop := ∃ r τ',Ru Γ f args τ r τ' ∧ K r τ'
def tW (c : TC) (Q : TEx → au) : au := fun fr tk τ => ∃ k ex fr' tk' τ',(zbih Γ k).2 c fr tk τ = some (ex,fr',tk',τ') ∧ Q ex fr' tk' τ'
variable {Γ}
theorem Ru.det {f : FuncId} {args : List TV} {τ : TH} {r r' : TV} {τ1 τ2 : TH} (h : Ru Γ f args τ r τ1) (k : Ru Γ f args τ r' τ2) : r = r' ∧ τ1 = τ2 := by
 obtain ⟨m,h⟩ := h
 obtain ⟨n,k⟩ := k
 have h1 := (xe Γ (Nat.le_max_left m n)).1 _ _ _ _ h
 have h2 := (xe Γ (Nat.le_max_right m n)).1 _ _ _ _ k
 rw [h1] at h2
 simpa using h2
theorem zchl {f : FuncId} {args : List TV} {τ : TH} {r : TV} {τ' : TH} (h : Ru Γ f args τ r τ') (K : TV → TH → Prop) : tC Γ f args τ K = K r τ' := by
 refine propext ⟨fun ⟨r2,τ2,h2,hK⟩ => ?_,fun hK => ⟨r,τ',h,hK⟩⟩
 obtain ⟨rfl,rfl⟩ := h.det h2
 exact hK
def eo (Γ : FuncId → Option TG) (lk : Bool) (f : FuncId) (args : List TV) (d : Option Nat) (K : au) (fr : TF) (tk : TK) (τ : TH) : Prop :=
 iy τ.next args = true ∧ tC Γ f args (bif lk then τ.locked τ.next else τ) fun r τ' => K (fv fr d r) tk (bif lk then τ'.locked τ.lock else τ')
def zcb8 (Γ : FuncId → Option TG) (f : FuncId) (args : Option (List TV)) (d : Option Nat) (K : au) (fr : TF) (tk : TK) (τ : TH) : Prop :=
 match args with
 | some as => tC Γ f as ⟨[],0⟩ fun r _ => r.flat = true ∧ K (fv fr d r) tk τ
 | none => False
def opK (o : Option (TV × TK × TH)) (d : Option Nat) (K : au) (fr : TF) : Prop := match o with | some (v,tk,τ) => K (fv fr d v) tk τ | none => False
def tG (Γ : FuncId → Option TG) (dr : Bool) (i : I) (m : Nat) (d : Option Nat) (K : au) (fr : TF) (tk : TK) (τ : TH) : Prop :=
 match i with
 | .call f args => if m = 1 then zcb8 Γ f (zbiy (tfz τ 0) (args.map (tO fr))) d K fr tk τ else eo Γ dr f (args.map fun a => (tO fr a).canT) d K fr tk τ
 | .callW f args => eo Γ false f (args.map fun a => (tO fr a).canT) d K fr tk τ
 | .callv x args => match tO fr x with
  | .func f a b => eo Γ dr f (a ++ (args.map fun a => (tO fr a).canT) ++ b) d K fr tk τ
  | _ => False
 | .callvW x args => match tO fr x with
  | .func f a b => eo Γ false f (a ++ (args.map fun a => (tO fr a).canT) ++ b) d K fr tk τ
  | _ => False
 | .fieldAddr off x => opK (tOp (.fieldAddr off x) m (z7 (.fieldAddr off x) m fr τ).1 tk (z7 (.fieldAddr off x) m fr τ).2) d K (z7 (.fieldAddr off x) m fr τ).1
 | .store n y x => opK (tOp (.store n y x) m (z7 (.store n y x) m fr τ).1 tk (z7 (.store n y x) m fr τ).2) d K (z7 (.store n y x) m fr τ).1
 | i => opK (tOp i m fr tk τ) d K fr
def gdK (Γ : FuncId → Option TG) (dr : Bool) (v : TV) (b : Bool) (i : I) (m : Nat) (d : Option Nat) (K : au) (fr : TF) (tk : TK) (τ : TH) : Prop :=
 match v with
 | .bool c => if c = b then tG Γ dr i m d K fr tk τ else K (fv fr d (.tup [])) tk τ
 | .tup [] => K (fv fr d (.tup [])) tk τ
 | _ => False
def tL (Γ : FuncId → Option TG) : List ak → au → au
 | [],K => K
 | ⟨⟨d,i,none⟩,m⟩ :: r,K => fun fr tk τ => tG Γ false i m d (tL Γ r K) fr tk τ
 | ⟨⟨d,i,some (t,b)⟩,m⟩ :: r,K => fun fr tk τ => gdK Γ false (lkp fr t) b i m d (tL Γ r K) fr tk τ
def pnK (x : ak) (k : Nat) (fr : TF) (τ : TH) (told : List (Nat × Ins)) (ys : List Nat) (K : List (Nat × Ins) → au) : au := fun fr' tk τ' => (ys.all (fun j => (vp x k (z7 x.x.i x.m fr τ).1 (z7 x.x.i x.m fr τ).2 fr' τ' told).any fun p => p.1 == j) = true) ∧ K (vp x k (z7 x.x.i x.m fr τ).1 (z7 x.x.i x.m fr τ).2 fr' τ' told) fr' tk τ'
def tD (Γ : FuncId → Option TG) : Nat → List (ak × List Nat) → au → List (Nat × Ins) → au
 | _,[],K,_ => K
 | k,(x,ys) :: r,K,told => fun fr tk τ => match x.x.guard with
  | none => tG Γ true x.x.i x.m x.x.dst (pnK x k fr τ told ys (tD Γ (k + 1) r K)) fr tk τ
  | some (t,b) => gdK Γ true (lkp fr t) b x.x.i x.m x.x.dst (pnK x k fr τ told ys (tD Γ (k + 1) r K)) fr tk τ
def zbpl (n : au) (Q : TEx → au) : TEx → au
 | .normal => n
 | e => Q e
def zbom (id : Nat) (lv : List Nat) (tk : TK) (τ : TH) (Q : TEx → au) : TEx → au := fun e fr' tk' τ' =>
 if e = .normal ∨ e = .exit id then Q .normal (ua lv tk τ fr' tk' τ').1 (ua lv tk τ fr' tk' τ').2.1 (ua lv tk τ fr' tk' τ').2.2 else Q e fr' tk' τ'
def zbs7 (Γ : FuncId → Option TG) (lv : List Nat) (a : TC) (tk : TK) (τ : TH) (Q : TEx → au) : TEx → au
 | .normal => fun fr' tk' τ' => tW Γ (.loop lv a) Q (ua lv tk τ fr' tk' τ').1 (ua lv tk τ fr' tk' τ').2.1 (ua lv tk τ fr' tk' τ').2.2
 | e => Q e
def cT (Γ : FuncId → Option TG) (v : TV) (a b : TC) (Q : TEx → au) (fr : TF) (tk : TK) (τ : TH) : Prop :=
 match v with
 | .bool c => if c = true then tW Γ a Q fr tk τ else tW Γ b Q fr tk τ
 | _ => False
def zbxe (rs : List R) (fz : Bool) (τ : TH) (K : TV → TH → Prop) : TEx → au := fun e fr tk τ' =>
 (e = .normal ∨ e = .ret) ∧ match zbmi rs fr τ' with
  | some v => if fz = true then (match tfz τ' τ.next v with | some u => K u (τ'.cut τ.next) | none => False) else if v.canT.under τ.next then K v.canT (τ'.cut τ.next) else v.canT.under τ'.next = true ∧ K v.canT τ'
  | none => False
section
variable {fr : TF} {tk : TK} {τ : TH}
theorem zcaf {lk : Bool} {f : FuncId} {args : List TV} {d : Option Nat} {K : au} : eo Γ lk f args d K fr tk τ ↔ ∃ k v tk' τ',zbo5 (zbih Γ k).1 lk f args tk τ = some (v,tk',τ') ∧ K (fv fr d v) tk' τ' := by
 unfold eo tC Ru zbo5
 by_cases hu : iy τ.next args = true
 · simp only [hu,if_true,true_and]
   cases lk
   · constructor
     · rintro ⟨r,τ',⟨k,h⟩,hK⟩
       exact ⟨k,r,tk,τ',by simp only [cond_false] at h ⊢; rw [h]; rfl,hK⟩
     · rintro ⟨k,v,tk',τ',h,hK⟩
       simp only [cond_false] at h
       obtain ⟨⟨r,τ2⟩,h1,h2⟩ := Option.map_eq_some_iff.1 h
       simp only [Prod.mk.injEq] at h2
       obtain ⟨rfl,rfl,rfl⟩ := h2
       exact ⟨r,τ2,⟨k,h1⟩,hK⟩
   · constructor
     · rintro ⟨r,τ',⟨k,h⟩,hK⟩
       exact ⟨k,r,tk,τ'.locked τ.lock,by simp only [cond_true] at h ⊢; rw [h]; rfl,hK⟩
     · rintro ⟨k,v,tk',τ',h,hK⟩
       simp only [cond_true] at h
       obtain ⟨⟨r,τ2⟩,h1,h2⟩ := Option.map_eq_some_iff.1 h
       simp only [Prod.mk.injEq] at h2
       obtain ⟨rfl,rfl,rfl⟩ := h2
       exact ⟨r,τ2,⟨k,h1⟩,hK⟩
 · simp [hu]
theorem zbyb {f : FuncId} {args : List TV} {d : Option Nat} {K : au} : zcb8 Γ f (zbiy (tfz τ 0) args) d K fr tk τ ↔ ∃ k v tk' τ',zbzt (zbih Γ k).1 f args tk τ = some (v,tk',τ') ∧ K (fv fr d v) tk' τ' := by
 unfold zcb8 tC Ru zbzt
 cases ha : zbiy (tfz τ 0) args with
 | none => simp
 | some as =>
  simp only [Option.bind_some]
  constructor
  · rintro ⟨r,τ2,⟨k,h⟩,hf,hK⟩
    exact ⟨k,r,tk,τ,by rw [h,Option.bind_some,if_pos hf],hK⟩
  · rintro ⟨k,v,tk',τ',h,hK⟩
    obtain ⟨⟨r,τ2⟩,h1,h2⟩ := Option.bind_eq_some_iff.1 h
    split at h2
    · rename_i hf
      simp only [Option.some.injEq,Prod.mk.injEq] at h2
      obtain ⟨rfl,rfl,rfl⟩ := h2
      exact ⟨r,τ2,⟨k,h1⟩,hf,hK⟩
    · cases h2
theorem zb76 {dr : Bool} {i : I} {m : Nat} {d : Option Nat} {g : Option (Nat × Bool)} {K : au} : tG Γ dr i m d K fr tk τ ↔ ∃ k v tk' τ',zblz (zbih Γ k).1 dr ⟨⟨d,i,g⟩,m⟩ (z7 i m fr τ).1 tk (z7 i m fr τ).2 = some (v,tk',τ') ∧ K (fv (z7 i m fr τ).1 d v) tk' τ' := by
 have op : ∀ (fr : TF) (τ : TH),opK (tOp i m fr tk τ) d K fr ↔ ∃ (_ : Nat) (v : TV) (tk' : TK) (τ' : TH),tOp i m fr tk τ = some (v,tk',τ') ∧ K (fv fr d v) tk' τ' := fun fr τ => by
  unfold opK
  cases h : tOp i m fr tk τ with
  | none => simp
  | some x =>
   obtain ⟨v,tk',τ'⟩ := x
   constructor
   · intro hK; exact ⟨0,v,tk',τ',rfl,hK⟩
   · rintro ⟨_,v2,tk2,τ2,h,hK⟩
     simp only [Option.some.injEq,Prod.mk.injEq] at h
     obtain ⟨rfl,rfl,rfl⟩ := h
     exact hK
 have pre : (∀ o a,i ≠ .fieldAddr o a) → (∀ n y x,i ≠ .store n y x) → z7 i m fr τ = (fr,τ) := fun h h2 => by
  unfold z7
  split
  · split
    · exact absurd rfl (h _ _)
    · exact absurd rfl (h2 _ _ _)
    · rfl
  · rfl
 cases i with
 | call f args =>
  rw [pre (by simp) (by simp)]
  simp only [tG,zblz]
  by_cases hm : m = 1
  · simp only [hm,if_true]; exact zbyb
  · simp only [hm,if_false]; exact zcaf
 | callW f args => rw [pre (by simp) (by simp)]; exact zcaf
 | callv x args =>
  rw [pre (by simp) (by simp)]
  simp only [tG,zblz]
  cases hx : tO fr x with
  | func f a b => exact zcaf
  | _ => simp
 | callvW x args =>
  rw [pre (by simp) (by simp)]
  simp only [tG,zblz]
  cases hx : tO fr x with
  | func f a b => exact zcaf
  | _ => simp
 | fieldAddr off x => exact op (z7 (.fieldAddr off x) m fr τ).1 (z7 (.fieldAddr off x) m fr τ).2
 | store n y x => exact op (z7 (.store n y x) m fr τ).1 (z7 (.store n y x) m fr τ).2
 | _ => rw [pre (by simp) (by simp)]; exact op fr τ
theorem zbtx {dr : Bool} {x : ak} {K : au} : (match x.x.guard with | none => tG Γ dr x.x.i x.m x.x.dst K fr tk τ | some (t,b) => gdK Γ dr (lkp fr t) b x.x.i x.m x.x.dst K fr tk τ) ↔ ∃ k fr' tk' τ',zbm8 (zbih Γ k).1 dr x fr tk τ = some (fr',tk',τ') ∧ K fr' tk' τ' := by
 obtain ⟨⟨d,i,g⟩,m⟩ := x
 have go : tG Γ dr i m d K fr tk τ ↔ ∃ k fr' tk' τ',tGo (zbih Γ k).1 dr ⟨⟨d,i,g⟩,m⟩ fr tk τ = some (fr',tk',τ') ∧ K fr' tk' τ' := by
  rw [zb76 (g := g)]
  constructor
  · rintro ⟨k,v,tk',τ',h,hK⟩
    exact ⟨k,_,tk',τ',by unfold tGo; rw [h]; rfl,hK⟩
  · rintro ⟨k,fr',tk',τ',h,hK⟩
    obtain ⟨⟨v,tk2,τ2⟩,h1,h2⟩ := Option.map_eq_some_iff.1 h
    simp only [Prod.mk.injEq] at h2
    obtain ⟨rfl,rfl,rfl⟩ := h2
    exact ⟨k,v,tk2,τ2,h1,hK⟩
 have sk : K (fv fr d (.tup [])) tk τ ↔ ∃ (k : Nat) (fr' : TF) (tk' : TK) (τ' : TH),some (fv fr d (.tup []),tk,τ) = some (fr',tk',τ') ∧ K fr' tk' τ' := by
  constructor
  · intro hK; exact ⟨0,_,_,_,rfl,hK⟩
  · rintro ⟨_,fr',tk',τ',h,hK⟩
    simp only [Option.some.injEq,Prod.mk.injEq] at h
    obtain ⟨rfl,rfl,rfl⟩ := h
    exact hK
 cases g with
 | none => simp only [zbm8]; exact go
 | some tb =>
  obtain ⟨t,b⟩ := tb
  simp only [zbm8,gdK]
  cases hv : lkp fr t with
  | bool c =>
   by_cases hc : c = b
   · simp only [hc,if_true]; exact go
   · simp only [hc,if_false]; exact sk
  | tup cs =>
   cases cs with
   | nil => exact sk
   | cons => simp
  | _ => simp
theorem zbp5 : ∀ {l : List ak} {K : au} {fr : TF} {tk : TK} {τ : TH},tL Γ l K fr tk τ ↔ ∃ k fr' tk' τ',zbow (zbih Γ k).1 l fr tk τ = some (fr',tk',τ') ∧ K fr' tk' τ'
 | [],K,fr,tk,τ => by
  simp only [tL,zbow]
  constructor
  · intro h; exact ⟨0,fr,tk,τ,rfl,h⟩
  · rintro ⟨_,fr',tk',τ',h,hK⟩
    simp only [Option.some.injEq,Prod.mk.injEq] at h
    obtain ⟨rfl,rfl,rfl⟩ := h
    exact hK
 | x :: r,K,fr,tk,τ => by
  have e : tL Γ (x :: r) K fr tk τ = (match x.x.guard with | none => tG Γ false x.x.i x.m x.x.dst (tL Γ r K) fr tk τ | some (t,b) => gdK Γ false (lkp fr t) b x.x.i x.m x.x.dst (tL Γ r K) fr tk τ) := by
   obtain ⟨⟨d,i,g⟩,m⟩ := x
   cases g with
   | none => rfl
   | some tb => rfl
  rw [e,zbtx]
  constructor
  · rintro ⟨k,fr1,tk1,τ1,h1,h2⟩
    obtain ⟨k2,fr',tk',τ',h3,hK⟩ := zbp5.1 h2
    refine ⟨max k k2,fr',tk',τ',?_,hK⟩
    simp only [zbow]
    rw [zcai (xe Γ (Nat.le_max_left k k2)).1 h1]
    exact zcha (xe Γ (Nat.le_max_right k k2)).1 h3
  · rintro ⟨k,fr',tk',τ',h,hK⟩
    simp only [zbow] at h
    split at h
    · rename_i fr1 tk1 τ1 h1
      exact ⟨k,fr1,tk1,τ1,h1,zbp5.2 ⟨k,fr',tk',τ',h,hK⟩⟩
    · cases h
theorem zbp7 : ∀ {l : List (ak × List Nat)} {n : Nat} {told : List (Nat × Ins)} {K : au} {fr : TF} {tk : TK} {τ : TH},tD Γ n l K told fr tk τ ↔ ∃ k fr' tk' τ',zboj (zbih Γ k).1 n l told fr tk τ = some (fr',tk',τ') ∧ K fr' tk' τ'
 | [],n,told,K,fr,tk,τ => by
  simp only [tD,zboj]
  constructor
  · intro h; exact ⟨0,fr,tk,τ,rfl,h⟩
  · rintro ⟨_,fr',tk',τ',h,hK⟩
    simp only [Option.some.injEq,Prod.mk.injEq] at h
    obtain ⟨rfl,rfl,rfl⟩ := h
    exact hK
 | (x,ys) :: r,n,told,K,fr,tk,τ => by
  simp only [tD]
  rw [zbtx]
  constructor
  · rintro ⟨k,fr1,tk1,τ1,h1,hy,h2⟩
    obtain ⟨k2,fr',tk',τ',h3,hK⟩ := zbp7.1 h2
    refine ⟨max k k2,fr',tk',τ',?_,hK⟩
    simp only [zboj]
    rw [zcai (xe Γ (Nat.le_max_left k k2)).1 h1]
    simp only [hy,if_true]
    exact zcc5 (xe Γ (Nat.le_max_right k k2)).1 h3
  · rintro ⟨k,fr',tk',τ',h,hK⟩
    simp only [zboj] at h
    split at h
    · rename_i fr1 tk1 τ1 h1
      split at h
      · rename_i hy
        exact ⟨k,fr1,tk1,τ1,h1,hy,zbp7.2 ⟨k,fr',tk',τ',h,hK⟩⟩
      · cases h
    · cases h
theorem zbv9 {c : TC} {Q : TEx → au} : tW Γ c Q fr tk τ ↔ ∃ k ex fr' tk' τ',ch (zbih Γ k) c fr tk τ = some (ex,fr',tk',τ') ∧ Q ex fr' tk' τ' := by
 constructor
 · rintro ⟨k,ex,fr',tk',τ',h,hQ⟩
   cases k with
   | zero => cases h
   | succ k => exact ⟨k,ex,fr',tk',τ',h,hQ⟩
 · rintro ⟨k,ex,fr',tk',τ',h,hQ⟩
   exact ⟨k + 1,ex,fr',tk',τ',h,hQ⟩
theorem zcgz {Q : TEx → au} {ex : TEx} {fr : TF} {tk : TK} {τ : TH} : (∃ (k : Nat) (ex' : TEx) (fr' : TF) (tk' : TK) (τ' : TH),some (ex,fr,tk,τ) = some (ex',fr',tk',τ') ∧ Q ex' fr' tk' τ') ↔ Q ex fr tk τ := by
 constructor
 · rintro ⟨_,ex',fr',tk',τ',h,hQ⟩
   simp only [Option.some.injEq,Prod.mk.injEq] at h
   obtain ⟨rfl,rfl,rfl,rfl⟩ := h
   exact hQ
 · intro hQ; exact ⟨0,ex,fr,tk,τ,rfl,hQ⟩
theorem zb2v {Q : TEx → au} : tW Γ .skip Q fr tk τ = Q .normal fr tk τ := propext (zbv9.trans zcgz)
theorem zb2x {Q : TEx → au} {id : Nat} : tW Γ (.exit id) Q fr tk τ = Q (.exit id) fr tk τ := propext (zbv9.trans zcgz)
theorem zb74 {Q : TEx → au} {lv : List Nat} : tW Γ (.ret lv) Q fr tk τ = Q .ret (sel lv fr) tk τ := propext (zbv9.trans zcgz)
theorem zb75 {Q : TEx → au} {l : List ak} : tW Γ (.ops l) Q fr tk τ = tL Γ l (Q .normal) fr tk τ := by
 refine propext (zbv9.trans ?_)
 rw [zbp5]
 constructor
 · rintro ⟨k,ex,fr',tk',τ',h,hQ⟩
   simp only [ch] at h
   obtain ⟨⟨q1,q2,q3⟩,ho,hq⟩ := Option.map_eq_some_iff.1 h
   simp only [Prod.mk.injEq] at hq
   obtain ⟨rfl,rfl,rfl,rfl⟩ := hq
   exact ⟨k,_,_,_,ho,hQ⟩
 · rintro ⟨k,fr',tk',τ',h,hQ⟩
   exact ⟨k,.normal,fr',tk',τ',by simp only [ch,h]; rfl,hQ⟩
theorem mf {Q : TEx → au} {l : List (ak × List Nat)} : tW Γ (.draw l) Q fr tk τ = tD Γ 0 l (Q .normal) [] fr tk τ := by
 refine propext (zbv9.trans ?_)
 rw [zbp7]
 constructor
 · rintro ⟨k,ex,fr',tk',τ',h,hQ⟩
   simp only [ch] at h
   obtain ⟨⟨q1,q2,q3⟩,ho,hq⟩ := Option.map_eq_some_iff.1 h
   simp only [Prod.mk.injEq] at hq
   obtain ⟨rfl,rfl,rfl,rfl⟩ := hq
   exact ⟨k,_,_,_,ho,hQ⟩
 · rintro ⟨k,fr',tk',τ',h,hQ⟩
   exact ⟨k,.normal,fr',tk',τ',by simp only [ch,h]; rfl,hQ⟩
theorem zb73 {Q : TEx → au} {a b : TC} : tW Γ (.seq a b) Q fr tk τ = tW Γ a (zbpl (tW Γ b Q) Q) fr tk τ := by
 refine propext (zbv9.trans ?_)
 constructor
 · rintro ⟨k,ex,fr',tk',τ',h,hQ⟩
   simp only [ch] at h
   split at h
   · rename_i fr1 tk1 τ1 h1
     exact ⟨k,.normal,fr1,tk1,τ1,h1,⟨k,ex,fr',tk',τ',h,hQ⟩⟩
   · rename_i hne
     refine ⟨k,ex,fr',tk',τ',h,?_⟩
     cases ex with
     | normal => exact absurd h (hne _ _ _)
     | exit id => exact hQ
     | ret => exact hQ
 · rintro ⟨k,ex,fr1,tk1,τ1,h,hQ⟩
   cases ex with
   | normal =>
    obtain ⟨k2,ex,fr',tk',τ',h2,hQ⟩ := hQ
    refine ⟨max k k2,ex,fr',tk',τ',?_,hQ⟩
    simp only [ch]
    rw [(xe Γ (Nat.le_max_left k k2)).2 _ _ _ _ _ h]
    exact (xe Γ (Nat.le_max_right k k2)).2 _ _ _ _ _ h2
   | exit id => exact ⟨k,.exit id,fr1,tk1,τ1,by simp only [ch,h],hQ⟩
   | ret => exact ⟨k,.ret,fr1,tk1,τ1,by simp only [ch,h],hQ⟩
theorem zb2y {Q : TEx → au} {c : Operand} {a b : TC} : tW Γ (.cond c a b) Q fr tk τ = cT Γ (tO fr c) a b Q fr tk τ := by
 refine propext (zbv9.trans ?_)
 unfold cT
 simp only [ch]
 cases hv : tO fr c with
 | bool t => cases t <;> simp [tW]
 | _ => simp
theorem zbw3 {Q : TEx → au} {id : Nat} {lv : List Nat} {a : TC} : tW Γ (.block id lv a) Q fr tk τ = tW Γ a (zbom id lv tk τ Q) fr tk τ := by
 refine propext (zbv9.trans ?_)
 constructor
 · rintro ⟨k,ex,fr',tk',τ',h,hQ⟩
   simp only [ch] at h
   split at h
   · rename_i ex1 fr1 tk1 τ1 h1
     refine ⟨k,ex1,fr1,tk1,τ1,h1,?_⟩
     unfold zbom
     split at h
     · rename_i hx
       rw [if_pos hx]
       simp only [Option.some.injEq,Prod.mk.injEq] at h
       obtain ⟨rfl,h2⟩ := h
       rw [h2]; exact hQ
     · rename_i hx
       rw [if_neg hx]
       simp only [Option.some.injEq,Prod.mk.injEq] at h
       obtain ⟨rfl,rfl,rfl,rfl⟩ := h
       exact hQ
   · cases h
 · rintro ⟨k,ex,fr1,tk1,τ1,h,hQ⟩
   unfold zbom at hQ
   split at hQ
   · rename_i hx
     exact ⟨k,.normal,_,_,_,by simp only [ch,h,if_pos hx],hQ⟩
   · rename_i hx
     exact ⟨k,ex,fr1,tk1,τ1,by simp only [ch,h,if_neg hx],hQ⟩
theorem zb2w {Q : TEx → au} {lv : List Nat} {a : TC} : tW Γ (.loop lv a) Q fr tk τ = tW Γ a (zbs7 Γ lv a tk τ Q) (sel lv fr) tk τ := by
 refine propext (zbv9.trans ?_)
 constructor
 · rintro ⟨k,ex,fr',tk',τ',h,hQ⟩
   simp only [ch] at h
   split at h
   · rename_i fr1 tk1 τ1 h1
     exact ⟨k,.normal,fr1,tk1,τ1,h1,⟨k,ex,fr',tk',τ',h,hQ⟩⟩
   · rename_i hne
     refine ⟨k,ex,fr',tk',τ',h,?_⟩
     cases ex with
     | normal => exact absurd h (hne _ _ _)
     | exit id => exact hQ
     | ret => exact hQ
 · rintro ⟨k,ex,fr1,tk1,τ1,h,hQ⟩
   cases ex with
   | normal =>
    obtain ⟨k2,ex,fr',tk',τ',h2,hQ⟩ := hQ
    refine ⟨max k k2,ex,fr',tk',τ',?_,hQ⟩
    simp only [ch]
    rw [(xe Γ (Nat.le_max_left k k2)).2 _ _ _ _ _ h]
    exact (xe Γ (Nat.le_max_right k k2)).2 _ _ _ _ _ h2
   | exit id => exact ⟨k,.exit id,fr1,tk1,τ1,by simp only [ch,h],hQ⟩
   | ret => exact ⟨k,.ret,fr1,tk1,τ1,by simp only [ch,h],hQ⟩
theorem zbw2 {Q : TEx → au} {lv : List Nat} {a : TC} : tW Γ (.clean lv a) Q fr tk τ = tW Γ a Q (sel lv fr) tk τ := by
 refine propext (zbv9.trans ?_)
 simp only [ch]
 exact Iff.rfl
end
theorem bh {f : FuncId} {fn : TFn} (hf : Γ f = some (.code fn)) {args : List TV} (hl : args.length ≤ fn.n) {τ : TH} {K : TV → TH → Prop} : tC Γ f args τ K = tW Γ fn.c (zbxe fn.rs fn.fz τ K) (zbwm 0 args) [] τ := by
 refine propext ⟨?_,?_⟩
 · rintro ⟨r,τ',⟨k,h⟩,hK⟩
   cases k with
   | zero => cases h
   | succ k =>
    have h : sr Γ (zbih Γ k) f args τ = some (r,τ') := h
    simp only [sr,hf,if_pos hl] at h
    split at h
    · rename_i ex fr tk τ1 h1
      refine ⟨k,ex,fr,tk,τ1,h1,?_⟩
      split at h
      · rename_i hx
        refine ⟨hx,?_⟩
        obtain ⟨v,hv,h⟩ := Option.bind_eq_some_iff.1 h
        simp only [hv]
        split at h
        · rename_i hz
          obtain ⟨u,hu,h⟩ := Option.bind_eq_some_iff.1 h
          simp only [Option.some.injEq,Prod.mk.injEq] at h
          obtain ⟨rfl,rfl⟩ := h
          rw [if_pos hz,hu]; exact hK
        rename_i hz
        rw [if_neg hz]
        split at h
        · rename_i hu
          simp only [Option.some.injEq,Prod.mk.injEq] at h
          obtain ⟨rfl,rfl⟩ := h
          rw [if_pos hu]; exact hK
        · rename_i hu
          split at h
          · rename_i hu2
            simp only [Option.some.injEq,Prod.mk.injEq] at h
            obtain ⟨rfl,rfl⟩ := h
            rw [if_neg hu]; exact ⟨hu2,hK⟩
          · cases h
      · cases h
    · cases h
 · rintro ⟨k,ex,fr,tk,τ1,h1,hx,h⟩
   cases hv : zbmi fn.rs fr τ1 with
   | none => rw [hv] at h; exact h.elim
   | some v =>
    rw [hv] at h
    simp only at h
    have run : ∀ r τ',(if fn.fz = true then ((tfz τ1 τ.next v).bind fun u => some (u,τ1.cut τ.next)) else if v.canT.under τ.next then some (v.canT,τ1.cut τ.next) else if v.canT.under τ1.next then some (v.canT,τ1) else none) = some (r,τ') → Ru Γ f args τ r τ' := fun r τ' hr => by
     refine ⟨k + 1,?_⟩
     show sr Γ (zbih Γ k) f args τ = some (r,τ')
     simp only [sr,hf,if_pos hl,h1,if_pos hx,hv,Option.bind_some]
     exact hr
    split at h
    · rename_i hz
      split at h
      · rename_i u hu
        exact ⟨_,_,run u (τ1.cut τ.next) (by rw [if_pos hz,hu]; rfl),h⟩
      · exact h.elim
    rename_i hz
    split at h
    · rename_i hu
      exact ⟨_,_,run v.canT (τ1.cut τ.next) (by rw [if_neg hz,if_pos hu]),h⟩
    · rename_i hu
      exact ⟨_,_,run v.canT τ1 (by rw [if_neg hz,if_neg hu,if_pos h.1]),h.2⟩
theorem jv {f : FuncId} {args : List TV} {τ : TH} {r : TV} {τ' : TH} (h : ∀ K : TV → TH → Prop,K r τ' → tC Γ f args τ K) : Ru Γ f args τ r τ' := by
 obtain ⟨r2,τ2,h1,rfl,rfl⟩ := h (fun r2 τ2 => r2 = r ∧ τ2 = τ') ⟨rfl,rfl⟩
 exact h1
theorem zcc8 {lk : Bool} {f : FuncId} {args : List TV} {r : TV} {d : Option Nat} {K : au} {fr : TF} {tk : TK} {τ τ' : TH} (h : Ru Γ f args (bif lk then τ.locked τ.next else τ) r τ') (hu : iy τ.next args = true) :
 eo Γ lk f args d K fr tk τ = K (fv fr d r) tk (bif lk then τ'.locked τ.lock else τ') := by
 unfold eo
 rw [zchl h]
 simp [hu]
end
end Go.Proofs.Ytdcfoaafkppojaa.Sh
