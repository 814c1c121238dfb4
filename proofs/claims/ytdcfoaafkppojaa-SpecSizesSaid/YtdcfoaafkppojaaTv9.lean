import Derived.Test.YtdcfoaafkppojaaTv8
set_option linter.unusedVariables false
set_option linter.unusedSimpArgs false
/- The tree level: evaluation, step by step: printed by a program of ours. -/
namespace Go.Proofs.Ytdcfoaafkppojaa.Sh
open Go Go.RowKit
def pK (o : Option TV) (d : Option Nat) (K : av) (fr : TF) (tk : TK) (τ : TH) : Prop := match o with | some v => K (gg fr d v) tk τ | none => False
def zbza (lv : List Nat) (tk : TK) (τ : TH) (fr' : TF) (tk' : TK) (τ' : TH) (K : av) : Prop := if ltL τ.next tk.length (lv.map fun t => lkp fr' t) = true then K (sel lv fr') (tk'.take tk.length) (τ'.cut τ.next) else K (sel lv fr') tk' τ'
def fzK (o : Option TV) (τ : TH) (K : TV → TH → Prop) (τ' : TH) : Prop := match o with | some u => K u (τ'.cut τ.next) | none => False
def rtK (o : Option TV) (τ : TH) (K : TV → TH → Prop) (τ' : TH) : Prop := match o with | some v => (if v.canT.under τ.next then K v.canT (τ'.cut τ.next) else v.canT.under τ'.next = true ∧ K v.canT τ') | none => False
def pl (l : List au) : List (au × List Nat) := l.map fun x => (x,[])
def tLD (Γ : FuncId → Option TG) : List au → av → av
 | [],K => K
 | ⟨⟨d,i,none⟩,m⟩ :: r,K => fun fr tk τ => tG Γ true i m d (tLD Γ r K) fr tk τ
 | ⟨⟨d,i,some (t,b)⟩,m⟩ :: r,K => fun fr tk τ => gdK Γ true (lkp fr t) b i m d (tLD Γ r K) fr tk τ
section
variable (Γ : FuncId → Option TG) (dr : Bool) (d : Option Nat) (K : av) (fr fr' : TF) (tk tk' : TK) (τ τ' : TH) (Q : TEx → av) (a b : TC) (lv : List Nat) (r : List au) (m : Nat)
theorem zb03 : ∀ (l : List au) (n : Nat) (told : List (Nat × Ins)) (K : av),tD Γ n (pl l) K told = tLD Γ l K
 | [],n,told,K => rfl
 | ⟨⟨d,i,g⟩,m⟩ :: r,n,told,K => by
  funext fr tk τ
  cases g with
  | none =>
   show tG Γ true i m d (pnK _ n fr τ told [] (tD Γ (n + 1) (pl r) K)) fr tk τ = tG Γ true i m d (tLD Γ r K) fr tk τ
   have q : pnK ⟨⟨d,i,none⟩,m⟩ n fr τ told [] (tD Γ (n + 1) (pl r) K) = tLD Γ r K := by
    funext fr' tk' τ'
    unfold pnK
    simp [zb03 r]
   rw [q]
  | some tb =>
   obtain ⟨t,b⟩ := tb
   show gdK Γ true (lkp fr t) b i m d (pnK _ n fr τ told [] (tD Γ (n + 1) (pl r) K)) fr tk τ = gdK Γ true (lkp fr t) b i m d (tLD Γ r K) fr tk τ
   have q : pnK ⟨⟨d,i,some (t,b)⟩,m⟩ n fr τ told [] (tD Γ (n + 1) (pl r) K) = tLD Γ r K := by
    funext fr' tk' τ'
    unfold pnK
    simp [zb03 r]
   rw [q]
def tSp (Γ : FuncId → Option TG) (o : Option au) (K : av) : av := fun fr tk τ => match o with
 | some ⟨⟨d,i,none⟩,m⟩ => tG Γ true i m d K fr tk τ
 | some ⟨⟨d,i,some (t,b)⟩,m⟩ => gdK Γ true (lkp fr t) b i m d K fr tk τ
 | none => False
def tTp (Γ : FuncId → Option TG) (lv : List Nat) (l : List au) : DTr Nat → av → av
 | .nil,K => K
 | .cons k r,K => tSp Γ l[k]? (tTp Γ lv l r K)
 | .alt k r j q,K => fun fr tk τ => tSp Γ l[k]? (tTp Γ lv l r fun fr1 tk1 τ1 => tSp Γ l[j]? (tTp Γ lv l q fun fr2 tk2 τ2 => (sel lv fr1 = sel lv fr2 ∧ tk1 = tk2 ∧ τ1 = τ2) ∧ K fr1 tk1 τ1) fr tk τ) fr tk τ
theorem zb00 (l : List au) (k : Nat) (told : List (Nat × Ins)) (K : av) (K' : List (Nat × Ins) → av) (hK : ∀ t,K' t = K) : tS Γ (pl l) (pl l)[k]? k told K' = tSp Γ l[k]? K := by
 have e : (pl l)[k]? = (l[k]?).map fun x => (x,[]) := by unfold pl; rw [List.getElem?_map]
 rw [e]
 generalize pl l = L
 funext fr tk τ
 cases l[k]? with
 | none => rfl
 | some x =>
  obtain ⟨⟨d,i,g⟩,m⟩ := x
  cases g with
  | none =>
   show tG Γ true i m d (pnT L _ k fr τ told [] K') fr tk τ = tG Γ true i m d K fr tk τ
   have q : pnT L ⟨⟨d,i,none⟩,m⟩ k fr τ told [] K' = K := by
    funext fr' tk' τ'
    unfold pnT
    simp [hK]
   rw [q]
  | some tb =>
   obtain ⟨t,b⟩ := tb
   show gdK Γ true (lkp fr t) b i m d (pnT L _ k fr τ told [] K') fr tk τ = gdK Γ true (lkp fr t) b i m d K fr tk τ
   have q : pnT L ⟨⟨d,i,some (t,b)⟩,m⟩ k fr τ told [] K' = K := by
    funext fr' tk' τ'
    unfold pnT
    simp [hK]
   rw [q]
theorem zbus (l : List au) : ∀ (t : DTr Nat) (K : av) (K' : List (Nat × Ins) → av) (hK : ∀ t,K' t = K) (told : List (Nat × Ins)),tT Γ lv (pl l) t K' told = tTp Γ lv l t K
 | .nil,K,K',hK,told => hK told
 | .cons k r,K,K',hK,told => zb00 Γ l k told _ _ fun t => zbus l r K K' hK t
 | .alt k r j q,K,K',hK,told => by
  funext fr tk τ
  show tS Γ (pl l) (pl l)[k]? k told (tT Γ lv (pl l) r _) fr tk τ = tSp Γ l[k]? (tTp Γ lv l r _) fr tk τ
  refine congrFun (congrFun (congrFun (zb00 Γ l k told _ _ fun t => zbus l r _ _ (fun t1 => ?_) t) fr) tk) τ
  funext fr1 tk1 τ1
  refine congrFun (congrFun (congrFun (zb00 Γ l j told _ _ fun t => zbus l q _ _ (fun t2 => ?_) t) fr) tk) τ
  funext fr2 tk2 τ2
  rw [hK]
def zb3w (Γ : FuncId → Option TG) (l : List au) : List (DTr Nat × List Nat) → av → av
 | [],K => K
 | (t,lv) :: r,K => tTp Γ lv l t fun fr' tk' τ' => zb3w Γ l r K (sel lv fr') tk' τ'
theorem zbxs (l : List au) : ∀ (t : List (DTr Nat × List Nat)) (K : av) (told : List (Nat × Ins)),tSg Γ (pl l) t K told = zb3w Γ l t K
 | [],K,told => rfl
 | (t,lv) :: r,K,told => zbus Γ lv l t _ _ (fun t' => by funext fr' tk' τ'; rw [zbxs l r K t']) told
theorem oh (i : I) : t5 i 0 fr τ = (fr,τ) := rfl
theorem og (i : I) : t5 i 1 fr τ = (fr,τ) := rfl
theorem od (i : I) : t5 i 2 fr τ = (fr,τ) := rfl
theorem oa (i : I) : t5 i 7 fr τ = (fr,τ) := rfl
theorem zbzf : tW Γ .skip Q fr tk τ = Q .normal fr tk τ := zb0w
theorem zbzg (id : Nat) : tW Γ (.exit id) Q fr tk τ = Q (.exit id) fr tk τ := zb0y
theorem zb7f : tW Γ (.ret lv) Q fr tk τ = Q .ret (sel lv fr) tk τ := zb53
theorem zb7g : tW Γ (.ops r) Q fr tk τ = tL Γ r (Q .normal) fr tk τ := zb54
theorem zcgt (t : List (DTr Nat × List Nat)) : tW Γ (.drawT (pl r) t) Q fr tk τ = zb3w Γ r t (Q .normal) fr tk τ := by rw [fy,zbxs]
theorem zckq : zb3w Γ r [] K = K := rfl
theorem zczt (t : DTr Nat) (q : List (DTr Nat × List Nat)) : zb3w Γ r ((t,lv) :: q) K fr tk τ = tTp Γ lv r t (fun fr1 tk1 τ1 => zb3w Γ r q K (sel lv fr1) tk1 τ1) fr tk τ := rfl
theorem zbni : tTp Γ lv r .nil K = K := rfl
theorem zckt (k : Nat) (t : DTr Nat) : tTp Γ lv r (.cons k t) K = tSp Γ r[k]? (tTp Γ lv r t K) := rfl
theorem zbnj (k j : Nat) (t q : DTr Nat) : tTp Γ lv r (.alt k t j q) K fr tk τ = tSp Γ r[k]? (tTp Γ lv r t fun fr1 tk1 τ1 => tSp Γ r[j]? (tTp Γ lv r q fun fr2 tk2 τ2 => (sel lv fr1 = sel lv fr2 ∧ tk1 = tk2 ∧ τ1 = τ2) ∧ K fr1 tk1 τ1) fr tk τ) fr tk τ := rfl
theorem zckr (i : I) : tSp Γ (some ⟨⟨d,i,none⟩,m⟩) K fr tk τ = tG Γ true i m d K fr tk τ := rfl
theorem zcks (i : I) (t : Nat) (b : Bool) : tSp Γ (some ⟨⟨d,i,some (t,b)⟩,m⟩) K fr tk τ = gdK Γ true (lkp fr t) b i m d K fr tk τ := rfl
theorem zbs3 : tW Γ (.draw (pl r)) Q fr tk τ = tLD Γ r (Q .normal) fr tk τ := by rw [iw,zb03]
theorem zb7e : tW Γ (.seq a b) Q fr tk τ = tW Γ a (zbm1 (tW Γ b Q) Q) fr tk τ := zb52
theorem zbzh (c : Operand) : tW Γ (.cond c a b) Q fr tk τ = cT Γ (tO fr c) a b Q fr tk τ := zb0z
theorem zbs5 (id : Nat) : tW Γ (.block id lv a) Q fr tk τ = tW Γ a (zblv id lv tk τ Q) fr tk τ := zbur
theorem zbs4 : tW Γ (.clean lv a) Q fr tk τ = tW Γ a Q (sel lv fr) tk τ := zbuq
theorem zbsd (c : Bool) : cT Γ (.bool c) a b Q fr tk τ = if c = true then tW Γ a Q fr tk τ else tW Γ b Q fr tk τ := rfl
theorem zbmz (n : av) : zbm1 n Q .normal = n := rfl
theorem zbmy (n : av) : zbm1 n Q .ret = Q .ret := rfl
theorem zbm0 (n : av) (id : Nat) : zbm1 n Q (.exit id) = Q (.exit id) := rfl
theorem zcf6 (id : Nat) : zblv id lv tk τ Q .normal fr' tk' τ' = zbza lv tk τ fr' tk' τ' (Q .normal) := by unfold zblv zbza ud; simp only [true_or,if_true]; split <;> rfl
theorem zcf5 (id : Nat) : zblv id lv tk τ Q (.exit id) fr' tk' τ' = zbza lv tk τ fr' tk' τ' (Q .normal) := by unfold zblv zbza ud; simp only [or_true,if_true]; split <;> rfl
theorem zclb (id j : Nat) (h : (j = id) = False) : zblv id lv tk τ Q (.exit j) = Q (.exit j) := by funext fr tk τ; unfold zblv; simp [h]
theorem zcf7 (id : Nat) : zblv id lv tk τ Q .ret = Q .ret := by funext fr tk τ; unfold zblv; simp
theorem zca0 (Q : TEx → av) : zbqs Γ lv a tk τ Q .normal fr' tk' τ' = zbza lv tk τ fr' tk' τ' (tW Γ (.loop lv a) Q) := by simp only [zbqs,zbza,ud]; split <;> rfl
theorem zbqq (Q : TEx → av) : zbqs Γ lv a tk τ Q .ret = Q .ret := rfl
theorem zbqr (Q : TEx → av) (id : Nat) : zbqs Γ lv a tk τ Q (.exit id) = Q (.exit id) := rfl
theorem zbsl : zbza lv tk τ fr' tk' τ' K = if ltL τ.next tk.length (lv.map fun t => lkp fr' t) = true then K (sel lv fr') (tk'.take tk.length) (τ'.cut τ.next) else K (sel lv fr') tk' τ' := rfl
theorem zbx2 (rs : List R) (K : TV → TH → Prop) : zbu2 rs false τ K .ret fr tk τ' = rtK (zbjy rs fr τ') τ K τ' := by unfold zbu2 rtK; cases zbjy rs fr τ' <;> simp
theorem zbx3 (rs : List R) (K : TV → TH → Prop) : zbu2 rs false τ K .normal fr tk τ' = rtK (zbjy rs fr τ') τ K τ' := by unfold zbu2 rtK; cases zbjy rs fr τ' <;> simp
theorem zbok (rs : List R) (K : TV → TH → Prop) : zbu2 rs true τ K .ret fr tk τ' = fzK ((zbjy rs fr τ').bind (tfz τ' τ.next)) τ K τ' := by unfold zbu2 fzK; cases h : zbjy rs fr τ' with | none => simp | some v => simp only [Option.bind_some,or_true,true_and,if_true]; cases tfz τ' τ.next v <;> rfl
theorem zbol (rs : List R) (K : TV → TH → Prop) : zbu2 rs true τ K .normal fr tk τ' = fzK ((zbjy rs fr τ').bind (tfz τ' τ.next)) τ K τ' := by unfold zbu2 fzK; cases h : zbjy rs fr τ' with | none => simp | some v => simp only [Option.bind_some,true_or,true_and,if_true]; cases tfz τ' τ.next v <;> rfl
theorem zchf (v : TV) (K : TV → TH → Prop) : fzK (some v) τ K τ' = K v (τ'.cut τ.next) := rfl
theorem zcju (v : TV) (K : TV → TH → Prop) : rtK (some v) τ K τ' = if v.canT.under τ.next then K v.canT (τ'.cut τ.next) else v.canT.under τ'.next = true ∧ K v.canT τ' := rfl
theorem zbw5 (r : R) : zbjy [r] fr τ = zbmg fr τ r := rfl
theorem zbw6 : zbjy [] fr τ = some (.tup []) := rfl
theorem zbw4 (r1 r2 : R) (l : List R) : zbjy (r1 :: r2 :: l) fr τ = (zbmh fr τ (r1 :: r2 :: l)).map .tup := rfl
def zb62 (a : Option TV) (b : Option (List TV)) : Option (List TV) := match a,b with | some x,some y => some (x :: y) | _,_ => none
theorem zcnt : zbmh fr τ [] = some [] := rfl
theorem zcqp (r : R) (l : List R) : zbmh fr τ (r :: l) = zb62 (zbmg fr τ r) (zbmh fr τ l) := rfl
theorem zc03 (x : TV) (y : List TV) : zb62 (some x) (some y) = some (x :: y) := rfl
def ld1 (τ : TH) : TV → Option TV | .ptr id off => zbuh τ id off | .rptr cs off => cs[off]? | _ => none
def ldN (n : Nat) (τ : TH) : TV → Option TV | .ptr id off => if n = 0 then none else (zbjj τ id off n).map .agg | .rptr cs off => if off + n ≤ cs.length then some (.agg ((cs.drop off).take n)) else none | _ => none
def rd1 (τ : TH) : TV → Option TV | .ptr id off => zbuh τ id off | _ => none
def rdN (n : Nat) (τ : TH) : TV → Option TV | .ptr id off => if n = 0 then none else (zbjj τ id off n).map .agg | _ => none
theorem zcmn (t : Nat) : zbmg fr τ (.tmp t) = some (lkp fr t) := rfl
theorem zc2h (t : Nat) : zbmg fr τ (.cell1 t) = rd1 τ (lkp fr t) := rfl
theorem zc2i (t n : Nat) : zbmg fr τ (.cellN t n) = rdN n τ (lkp fr t) := rfl
theorem zbo7 (id off : Nat) : rd1 τ (.ptr id off) = zbuh τ id off := rfl
theorem zbo6 (n id off : Nat) : rdN n τ (.ptr id off) = if n = 0 then none else (zbjj τ id off n).map .agg := rfl
theorem zbxu : tL Γ [] K = K := rfl
theorem zbno (i : I) : tL Γ (⟨⟨d,i,none⟩,m⟩ :: r) K fr tk τ = tG Γ false i m d (tL Γ r K) fr tk τ := rfl
theorem zbnn (i : I) (t : Nat) (b : Bool) : tL Γ (⟨⟨d,i,some (t,b)⟩,m⟩ :: r) K fr tk τ = gdK Γ false (lkp fr t) b i m d (tL Γ r K) fr tk τ := rfl
theorem zbnq : tLD Γ [] K = K := rfl
theorem zcj4 (i : I) : tLD Γ (⟨⟨d,i,none⟩,m⟩ :: r) K fr tk τ = tG Γ true i m d (tLD Γ r K) fr tk τ := rfl
theorem zcj5 (i : I) (t : Nat) (b : Bool) : tLD Γ (⟨⟨d,i,some (t,b)⟩,m⟩ :: r) K fr tk τ = gdK Γ true (lkp fr t) b i m d (tLD Γ r K) fr tk τ := rfl
theorem zb6t (i : I) : gdK Γ dr (.bool true) true i m d K fr tk τ = tG Γ dr i m d K fr tk τ := by simp [gdK]
theorem zb6w (i : I) : gdK Γ dr (.bool false) false i m d K fr tk τ = tG Γ dr i m d K fr tk τ := by simp [gdK]
theorem zb6u (i : I) : gdK Γ dr (.bool true) false i m d K fr tk τ = K (gg fr d (.tup [])) tk τ := by simp [gdK]
theorem zb6v (i : I) : gdK Γ dr (.bool false) true i m d K fr tk τ = K (gg fr d (.tup [])) tk τ := by simp [gdK]
theorem zby3 (i : I) (b : Bool) : gdK Γ dr (.tup []) b i m d K fr tk τ = K (gg fr d (.tup [])) tk τ := rfl
theorem zbzv (f : FuncId) (args : List Operand) : tG Γ dr (.call f args) 0 d K fr tk τ = fp Γ dr f (args.map fun a => (tO fr a).canT) d K fr tk τ := rfl
theorem zbtl (f : FuncId) (args : List Operand) : tG Γ dr (.call f args) 1 d K fr tk τ = zcah Γ f (zaty (tfz τ 0) (args.map (tO fr))) d K fr tk τ := rfl
theorem zckg (f : TV → Option TV) : zaty f [] = some [] := rfl
def zcfv (a : Option TV) (b : Option (List TV)) : Option (List TV) := match a,b with | some x,some y => some (x :: y) | _,_ => none
theorem zczw (f : TV → Option TV) (v : TV) (l : List TV) : zaty f (v :: l) = zcfv (f v) (zaty f l) := rfl
theorem zc0j (v : TV) (l : List TV) : zcfv (some v) (some l) = some (v :: l) := rfl
theorem zbm7 (n0 : Nat) (cs : List TV) : tfz τ n0 (.agg cs) = (zaty (za4n τ n0 2) cs).map .agg := rfl
theorem zckl (n0 : Nat) (b : Bool) : tfz τ n0 (.bool b) = some (TV.bool b) := rfl
theorem zczx (n0 : Nat) (b : Bool) : za4n τ n0 2 (.bool b) = some (TV.bool b) := rfl
theorem zbm6 (n0 : Nat) (k : IntKind) (n : Int) : tfz τ n0 (.int k n) = some (TV.int k n) := rfl
theorem zckh (n0 : Nat) (k : IntKind) (n : Int) : za4n τ n0 2 (.int k n) = some (TV.int k n) := rfl
theorem zbm2 (n0 : Nat) (s : ByteArray) : tfz τ n0 (.str s) = some (TV.str s) := rfl
theorem zckk (n0 : Nat) (s : ByteArray) : za4n τ n0 2 (.str s) = some (TV.str s) := rfl
theorem zbw9 (n0 : Nat) (l : List TV) : tfz τ n0 (.sl l) = some (TV.sl l) := rfl
theorem zbm8 (n0 : Nat) (l : List TV) : za4n τ n0 2 (.sl l) = some (TV.sl l) := rfl
theorem zbm5 (n0 : Nat) (k : Nat) (l : List TV) : tfz τ n0 (.sla k l) = some (TV.sl l) := rfl
theorem zcki (n0 : Nat) (k : Nat) (l : List TV) : za4n τ n0 2 (.sla k l) = some (TV.sl l) := rfl
theorem zbm3 (n0 : Nat) : tfz τ n0 .slz = some (.sl []) := rfl
theorem zckj (n0 : Nat) : za4n τ n0 2 .slz = some (.sl []) := rfl
theorem zbm4 (n0 id off n sz : Nat) : tfz τ n0 (.slm id off n sz) = za4n τ n0 2 (.slm id off n sz) := rfl
theorem zbtk (f : FuncId) (args : List Operand) : tG Γ dr (.callW f args) m d K fr tk τ = fp Γ false f (args.map fun a => (tO fr a).canT) d K fr tk τ := rfl
def cvK (Γ : FuncId → Option TG) (dr : Bool) (v : TV) (args : List TV) (d : Option Nat) (K : av) (fr : TF) (tk : TK) (τ : TH) : Prop := match v with | .func f a b => fp Γ dr f (a ++ args ++ b) d K fr tk τ | _ => False
theorem zbtj (x : Operand) (args : List Operand) : tG Γ dr (.callv x args) m d K fr tk τ = cvK Γ dr (tO fr x) (args.map fun a => (tO fr a).canT) d K fr tk τ := by unfold cvK; rfl
theorem zcfx (x : Operand) (args : List Operand) : tG Γ dr (.callvW x args) m d K fr tk τ = cvK Γ false (tO fr x) (args.map fun a => (tO fr a).canT) d K fr tk τ := by unfold cvK; rfl
theorem zbr3 (f : FuncId) (p q args : List TV) : cvK Γ dr (.func f p q) args d K fr tk τ = fp Γ dr f (p ++ args ++ q) d K fr tk τ := rfl
theorem zbpo (v : TV) : pK (some v) d K fr tk τ = K (gg fr d v) tk τ := rfl
theorem zbyh (c : Prop) [Decidable c] (v : TV) : pK (if c then some v else none) d K fr tk τ = (c ∧ K (gg fr d v) tk τ) := by unfold pK; by_cases h : c <;> simp [h]
theorem zcjk (v : TV) : opK (some (v,tk',τ')) d K fr = K (gg fr d v) tk' τ' := rfl
theorem zca3 (c : Prop) [Decidable c] (x : TV × TK × TH) : opK (if c then some x else none) d K fr = (c ∧ opK (some x) d K fr) := by unfold opK; by_cases h : c <;> simp [h]
theorem zb7j (x : Operand) : tG Γ dr (.mov x) 0 d K fr tk τ = K (gg fr d (tO fr x)) tk τ := rfl
theorem zbzp (x : Operand) : tG Γ dr (.mov x) 3 d K fr tk τ = K (gg fr d (tO fr x).canT) tk τ := rfl
def zbqa (v : TV) (d : Option Nat) (K : av) (fr : TF) (tk : TK) (τ : TH) : Prop := match v with | .slz => K (gg fr d (.sla tk.length [])) (tk ++ [some (0,0)]) τ | _ => False
theorem zbzq (x : Operand) : tG Γ dr (.mov x) 1 d K fr tk τ = zbqa (tO fr x) d K fr tk τ := by unfold zbqa; simp only [tG,tOp,if_true]; cases tO fr x <;> rfl
theorem zcia : zbqa .slz d K fr tk τ = K (gg fr d (.sla tk.length [])) (tk ++ [some (0,0)]) τ := rfl
def zb1f (c a b : TV) : Option TV := match c with | .bool t => some (bif t then a else b) | _ => none
theorem kg (o : Option TV) : opK (o.map fun v => (v,tk,τ)) d K fr = pK o d K fr tk τ := by cases o <;> rfl
theorem zbzo (c a b : Operand) : tG Γ dr (.pick c a b) m d K fr tk τ = pK (zb1f (tO fr c) (tO fr a) (tO fr b)) d K fr tk τ := (kg d K fr tk τ (tP (.pick c a b) fr τ)).trans (by unfold zb1f; rfl)
theorem zbpm (t : Bool) (v w : TV) : zb1f (.bool t) v w = some (bif t then v else w) := rfl
theorem zbtg (x : Operand) : tG Γ dr (.load1 x) 0 d K fr tk τ = pK (ld1 τ (tO fr x)) d K fr tk τ := (kg d K fr tk τ (tP (.load1 x) fr τ)).trans (by unfold ld1; rfl)
theorem zbq8 (id off : Nat) : ld1 τ (.ptr id off) = zbuh τ id off := rfl
theorem zcil (cs : List TV) (off : Nat) : ld1 τ (.rptr cs off) = cs[off]? := rfl
theorem zbte (n : Nat) (x : Operand) : tG Γ dr (.loadN n x) m d K fr tk τ = pK (ldN n τ (tO fr x)) d K fr tk τ := (kg d K fr tk τ (tP (.loadN n x) fr τ)).trans (by unfold ldN; rfl)
theorem zbq7 (n id off : Nat) : ldN n τ (.ptr id off) = if n = 0 then none else (zbjj τ id off n).map .agg := rfl
theorem zcim (n : Nat) (cs : List TV) (off : Nat) : ldN n τ (.rptr cs off) = if off + n ≤ cs.length then some (.agg ((cs.drop off).take n)) else none := rfl
def zb6h : TV → Option TV | .ptr id off => some (.ptr id off) | .rptr cs off => some (.rptr cs off) | .func f a b => some (.func f a b) | _ => none
theorem zcf1 (x : Operand) : tG Γ dr (.nilchk x) m d K fr tk τ = pK (zb6h (tO fr x)) d K fr tk τ := (kg d K fr tk τ (tP (.nilchk x) fr τ)).trans (by unfold zb6h; rfl)
theorem zch9 (id off : Nat) : zb6h (.ptr id off) = some (.ptr id off) := rfl
theorem zcyq (cs : List TV) (off : Nat) : zb6h (.rptr cs off) = some (.rptr cs off) := rfl
theorem zcyp (f : FuncId) (p q : List TV) : zb6h (.func f p q) = some (.func f p q) := rfl
theorem zb7p (op : BinOp) (x y : Operand) : tG Γ dr (.bin op x y) m d K fr tk τ = pK (a6 op (tO fr x) (tO fr y)) d K fr tk τ := (kg d K fr tk τ (tP (.bin op x y) fr τ)).trans (by rfl)
def eqb (neg : Bool) (p q : TV) : Option TV := match p,q with | .bool p,.bool q => some (.bool (bif neg then p != q else p == q)) | _,_ => none
theorem zb7n (neg : Bool) (x y : Operand) : tG Γ dr (.eqB neg x y) m d K fr tk τ = pK (eqb neg (tO fr x) (tO fr y)) d K fr tk τ := (kg d K fr tk τ (tP (.eqB neg x y) fr τ)).trans (by unfold eqb; rfl)
theorem zby7 (neg p q : Bool) : eqb neg (.bool p) (.bool q) = some (.bool (bif neg then p != q else p == q)) := rfl
theorem zbth (k : NK) (neg : Bool) (x : Operand) : tG Γ dr (.isNil k neg x) m d K fr tk τ = pK ((zbkj k (tO fr x)).map fun b => .bool (bif neg then !b else b)) d K fr tk τ := (kg d K fr tk τ (tP (.isNil k neg x) fr τ)).trans (by rfl)
theorem zcmj  : zbkj .p (.nilP) = some true := rfl
theorem zc2e (i o : Nat) : zbkj .p (.ptr i o) = some false := rfl
theorem zcmk (c : List TV) (o : Nat) : zbkj .p (.rptr c o) = some false := rfl
theorem zc2g  : zbkj .s (.slz) = some true := rfl
theorem zczy (v : TV) (l : List TV) : zbkj .s (.sl (v :: l)) = some false := rfl
theorem zc2f (i o n s : Nat) : zbkj .s (.slm i o n s) = some false := rfl
theorem zcmi  : zbkj .m (.nilM) = some true := rfl
theorem zcmh  : zbkj .f (.nilF) = some true := rfl
theorem zcmg (f : FuncId) (p q : List TV) : zbkj .f (.func f p q) = some false := rfl
theorem zc32 (op : UnOp) (x : Operand) : tG Γ dr (.un op x) m d K fr tk τ = pK (tun op (tO fr x)) d K fr tk τ := (kg d K fr tk τ (tP (.un op x) fr τ)).trans (by rfl)
def cnv (k : IntKind) : TV → Option TV | .int _ n => some (.int k (k.wrap n)) | _ => none
theorem zbzu (k : IntKind) (x : Operand) : tG Γ dr (.conv k x) m d K fr tk τ = pK (cnv k (tO fr x)) d K fr tk τ := (kg d K fr tk τ (tP (.conv k x) fr τ)).trans (by unfold cnv; rfl)
theorem zbr6 (k j : IntKind) (n : Int) : cnv k (.int j n) = some (.int k (k.wrap n)) := rfl
def zcfo : TV → Option TV | .str s => some (.str s) | _ => none
theorem zbti (x : Operand) : tG Γ dr (.convS x) m d K fr tk τ = pK (zcfo (tO fr x)) d K fr tk τ := (kg d K fr tk τ (tP (.convS x) fr τ)).trans (by unfold zcfo; rfl)
theorem zcg4 (s : ByteArray) : zcfo (.str s) = some (.str s) := rfl
def fad (off : Nat) : TV → Option TV | .ptr id o => some (.ptr id (o + off)) | .rptr cs o => some (.rptr cs (o + off)) | _ => none
theorem zc20 (off : Nat) (x : Operand) : tG Γ dr (.fieldAddr off x) 0 d K fr tk τ = pK (fad off (tO fr x)) d K fr tk τ := (kg d K fr tk τ (tP (.fieldAddr off x) fr τ)).trans (by unfold fad; rfl)
def lfO (b : Option Ob) (id o off : Nat) (d : Option Nat) (K : av) (fr : TF) (tk : TK) (τ : TH) : Prop := match b with
 | some b => (τ.lock ≤ id ∧ b.cs ≠ []) ∧ K (gg (zbjs id τ.next fr) d (.ptr τ.next (o + off))) tk ((τ.put id ⟨b.t,[]⟩).push b)
 | none => False
def lfK (off : Nat) (v : TV) (d : Option Nat) (K : av) (fr : TF) (tk : TK) (τ : TH) : Prop := match v with | .ptr id o => lfO (τ.at id) id o off d K fr tk τ | _ => False
theorem zbnm (id n : Nat) (fr : TF) (x : Operand) : tO (zbjs id n fr) x = ren id n (tO fr x) ∨ ∃ v,x = .const v := by
 cases x with
 | tmp t =>
  left
  induction fr with
  | nil => rfl
  | cons p r ih =>
   obtain ⟨k,v⟩ := p
   show lkp ((k,ren id n v) :: zbjs id n r) t = ren id n (lkp ((k,v) :: r) t)
   simp only [lkp]
   by_cases h : t = k
   · rw [if_pos h,if_pos h]
   · rw [if_neg h,if_neg h]; exact ih
 | const v => exact .inr ⟨v,rfl⟩
 | func f => left; rfl
 | global g => left; rfl
theorem zbzr (off : Nat) (t : Nat) (h : lfK off (lkp fr t) d K fr tk τ) : tG Γ dr (.fieldAddr off (.tmp t)) 9 d K fr tk τ := by
 unfold lfK at h
 split at h
 · rename_i id o hz
   have hz' : tO fr (.tmp t) = .ptr id o := hz
   unfold lfO at h
   split at h
   · rename_i b hb
     obtain ⟨hc,h⟩ := h
     have e : t5 (.fieldAddr off (.tmp t)) 9 fr τ = (zbjs id τ.next fr,(τ.put id ⟨b.t,[]⟩).push b) := by
      unfold t5 zbz2
      rw [if_pos rfl]
      simp only [hz',hb]
      rw [if_pos hc]
     simp only [tG,e]
     have e2 : tO (zbjs id τ.next fr) (.tmp t) = .ptr τ.next o := by
      rcases zbnm id τ.next fr (.tmp t) with e2 | ⟨v,e2⟩
      · rw [e2,hz']; simp [ren]
      · cases e2
     simp only [tOp,tP,e2]
     exact h
   · exact h.elim
 · exact h.elim
theorem zbq2 (off id o : Nat) : lfK off (.ptr id o) d K fr tk τ = lfO (τ.at id) id o off d K fr tk τ := rfl
theorem zciq (id o off : Nat) (t : TypeId) (cs : List TV) : lfO (some ⟨t,cs⟩) id o off d K fr tk τ = ((τ.lock ≤ id ∧ cs ≠ []) ∧ K (gg (zbjs id τ.next fr) d (.ptr τ.next (o + off))) tk ((τ.put id ⟨t,[]⟩).push ⟨t,cs⟩)) := rfl
theorem zcjl (i n : Nat) : zbjs i n [] = [] := rfl
theorem zczd (i n k : Nat) (v : TV) (l : TF) : zbjs i n ((k,v) :: l) = (k,ren i n v) :: zbjs i n l := rfl
theorem zbot (i n j o : Nat) : ren i n (.ptr j o) = if j = i then .ptr n o else .ptr j o := rfl
theorem zcze (i n : Nat)  : ren i n (TV.undef ) = TV.undef  := rfl
theorem zcjm (i n : Nat) (b : Bool) : ren i n (TV.bool b) = TV.bool b := rfl
theorem zbou (i n : Nat) (k : IntKind) (x : Int) : ren i n (TV.int k x) = TV.int k x := rfl
theorem zbon (i n : Nat) (s : ByteArray) : ren i n (TV.str s) = TV.str s := rfl
theorem zcjr (i n : Nat)  : ren i n (TV.nilP ) = TV.nilP  := rfl
theorem zcjs (i n : Nat) (c : List TV) (o : Nat) : ren i n (TV.rptr c o) = TV.rptr c o := rfl
theorem zboo (i n : Nat)  : ren i n (TV.slz ) = TV.slz  := rfl
theorem zbx4 (i n : Nat) (l : List TV) : ren i n (TV.sl l) = TV.sl l := rfl
theorem zbos (i n : Nat) (k : Nat) (l : List TV) : ren i n (TV.sla k l) = TV.sla k l := rfl
theorem zbor (i n : Nat) (k : Nat) (t : TypeId) : ren i n (TV.slb k t) = TV.slb k t := rfl
theorem zbop (i n : Nat) (t : TypeId) (l : List TV) : ren i n (TV.slo t l) = TV.slo t l := rfl
theorem zboq (i n : Nat) (j o n0 s : Nat) : ren i n (TV.slm j o n0 s) = TV.slm j o n0 s := rfl
theorem zcjq (i n : Nat)  : ren i n (TV.nilM ) = TV.nilM  := rfl
theorem zcjo (i n : Nat)  : ren i n (TV.nilF ) = TV.nilF  := rfl
theorem zcjn (i n : Nat) (f : FuncId) (p q : List TV) : ren i n (TV.func f p q) = TV.func f p q := rfl
theorem zcjp (i n : Nat)  : ren i n (TV.nilI ) = TV.nilI  := rfl
theorem zbov (i n : Nat) (cs : List TV) : ren i n (TV.agg cs) = TV.agg cs := rfl
theorem zbom (i n : Nat) (cs : List TV) : ren i n (TV.tup cs) = TV.tup cs := rfl
theorem zbry (off id o : Nat) : fad off (.ptr id o) = some (.ptr id (o + off)) := rfl
theorem zchd (off : Nat) (cs : List TV) (o : Nat) : fad off (.rptr cs o) = some (.rptr cs (o + off)) := rfl
def fl1 (off : Nat) : TV → Option TV | .agg cs => cs[off]? | _ => none
theorem zcfy (off : Nat) (x : Operand) : tG Γ dr (.field1 off x) m d K fr tk τ = pK (fl1 off (tO fr x)) d K fr tk τ := (kg d K fr tk τ (tP (.field1 off x) fr τ)).trans (by unfold fl1; rfl)
theorem zbrx (off : Nat) (cs : List TV) : fl1 off (.agg cs) = cs[off]? := rfl
def flN (off n : Nat) : TV → Option TV | .agg cs => if off + n ≤ cs.length then some (.agg ((cs.drop off).take n)) else none | _ => none
theorem zcfz (off n : Nat) (x : Operand) : tG Γ dr (.fieldN off n x) m d K fr tk τ = pK (flN off n (tO fr x)) d K fr tk τ := (kg d K fr tk τ (tP (.fieldN off n x) fr τ)).trans (by unfold flN; rfl)
theorem zbrw (off n : Nat) (cs : List TV) : flN off n (.agg cs) = if off + n ≤ cs.length then some (.agg ((cs.drop off).take n)) else none := rfl
def ixP (len sz : Nat) (x i : TV) : Option TV := match x,i with
 | .ptr id o,.int _ n => if 0 ≤ n ∧ n < len then some (.ptr id (o + n.toNat * sz)) else none
 | .rptr cs o,.int _ n => if 0 ≤ n ∧ n < len then some (.rptr cs (o + n.toNat * sz)) else none
 | _,_ => none
theorem zc09 (len sz : Nat) (x i : Operand) : tG Γ dr (.indexPtr len sz x i) m d K fr tk τ = pK (ixP len sz (tO fr x) (tO fr i)) d K fr tk τ := (kg d K fr tk τ (tP (.indexPtr len sz x i) fr τ)).trans (by unfold ixP; rfl)
theorem zbrh (len sz id o : Nat) (k : IntKind) (n : Int) : ixP len sz (.ptr id o) (.int k n) = if 0 ≤ n ∧ n < len then some (.ptr id (o + n.toNat * sz)) else none := rfl
theorem zcii (len sz : Nat) (cs : List TV) (o : Nat) (k : IntKind) (n : Int) : ixP len sz (.rptr cs o) (.int k n) = if 0 ≤ n ∧ n < len then some (.rptr cs (o + n.toNat * sz)) else none := rfl
def ixS (sz : Nat) (x i : TV) : Option TV := match i with
 | .int _ n => (match x with
  | .slm id o len s => if 0 ≤ n ∧ n < len ∧ s = sz then some (.ptr id (o + n.toNat * sz)) else none
  | v => v.list.bind fun l => if 0 ≤ n ∧ n < l.length ∧ (l.getD n.toNat .undef).cells.length = sz then some (.rptr (l.getD n.toNat .undef).cells 0) else none)
 | _ => none
theorem zck5 (sz : Nat) (x i : Operand) : tG Γ dr (.indexSl sz x i) m d K fr tk τ = pK (ixS sz (tO fr x) (tO fr i)) d K fr tk τ := (kg d K fr tk τ (tP (.indexSl sz x i) fr τ)).trans (by unfold ixS; rfl)
theorem zby0 (sz : Nat) (l : List TV) (j : IntKind) (n : Int) : ixS sz (.sl l) (.int j n) = if 0 ≤ n ∧ n < l.length ∧ (l.getD n.toNat .undef).cells.length = sz then some (.rptr (l.getD n.toNat .undef).cells 0) else none := rfl
theorem zbrg (sz : Nat) (k : Nat) (l : List TV) (j : IntKind) (n : Int) : ixS sz (.sla k l) (.int j n) = if 0 ≤ n ∧ n < l.length ∧ (l.getD n.toNat .undef).cells.length = sz then some (.rptr (l.getD n.toNat .undef).cells 0) else none := rfl
theorem zbrf (sz id o len s : Nat) (j : IntKind) (n : Int) : ixS sz (.slm id o len s) (.int j n) = if 0 ≤ n ∧ n < len ∧ s = sz then some (.ptr id (o + n.toNat * sz)) else none := rfl
def ixT (x i : TV) : Option TV := match x,i with | .str s,.int _ n => if 0 ≤ n ∧ n < s.size then some (.int .u8 (s.data.getD n.toNat 0).toNat) else none | _,_ => none
theorem zc1a (x i : Operand) : tG Γ dr (.indexStr x i) m d K fr tk τ = pK (ixT (tO fr x) (tO fr i)) d K fr tk τ := (kg d K fr tk τ (tP (.indexStr x i) fr τ)).trans (by unfold ixT; rfl)
theorem zb6r (s : ByteArray) (k : IntKind) (n : Int) : ixT (.str s) (.int k n) = if 0 ≤ n ∧ n < s.size then some (.int .u8 (s.data.getD n.toNat 0).toNat) else none := rfl
def slT (x : TV) (lo hi : Option TV) : Option TV := match x with | .str s => (my s.size lo hi).map fun lh => .str (s.extract lh.1 lh.2) | _ => none
theorem zc1b (x : Operand) (lo hi : Option Operand) : tG Γ dr (.sliceStr x lo hi) m d K fr tk τ = pK (slT (tO fr x) (lo.map (tO fr)) (hi.map (tO fr))) d K fr tk τ := (kg d K fr tk τ (tP (.sliceStr x lo hi) fr τ)).trans (by unfold slT; rfl)
theorem zb56 (s : ByteArray) (lo hi : Option TV) : slT (.str s) lo hi = (my s.size lo hi).map fun lh => .str (s.extract lh.1 lh.2) := rfl
def slS (sz : Nat) (x : TV) (lo hi : Option TV) : Option TV := match x with
 | .slm id o len s => if s = sz then (my len lo hi).map fun lh => .slm id (o + lh.1 * sz) (lh.2 - lh.1) sz else none
 | .sl l => if l.all (fun e => e.cells.length == sz) && !l.isEmpty then (my l.length lo hi).map fun lh => .sl ((l.take lh.2).drop lh.1) else none
 | .sla _ l => if l.all (fun e => e.cells.length == sz) && !l.isEmpty then (my l.length lo hi).map fun lh => .sl ((l.take lh.2).drop lh.1) else none
 | _ => none
theorem zclp (sz : Nat) (x : Operand) (lo hi : Option Operand) : tG Γ dr (.sliceSl sz x lo hi) m d K fr tk τ = pK (slS sz (tO fr x) (lo.map (tO fr)) (hi.map (tO fr))) d K fr tk τ := (kg d K fr tk τ (tP (.sliceSl sz x lo hi) fr τ)).trans (by unfold slS; rfl)
theorem zbxy (sz : Nat) (l : List TV) (lo hi : Option TV) : slS sz (.sl l) lo hi = if l.all (fun e => e.cells.length == sz) && !l.isEmpty then (my l.length lo hi).map fun lh => .sl ((l.take lh.2).drop lh.1) else none := rfl
theorem zbnz (sz k : Nat) (l : List TV) (lo hi : Option TV) : slS sz (.sla k l) lo hi = if l.all (fun e => e.cells.length == sz) && !l.isEmpty then (my l.length lo hi).map fun lh => .sl ((l.take lh.2).drop lh.1) else none := rfl
theorem zbny (sz id o len s : Nat) (lo hi : Option TV) : slS sz (.slm id o len s) lo hi = if s = sz then (my len lo hi).map fun lh => .slm id (o + lh.1 * sz) (lh.2 - lh.1) sz else none := rfl
theorem zb5w (n : Nat) : my n none none = some (0,n) := rfl
theorem zb5y (n : Nat) (k : IntKind) (l : Int) : my n (some (.int k l)) none = if 0 ≤ l ∧ l ≤ n then some (l.toNat,n) else none := rfl
theorem zb5x (n : Nat) (k : IntKind) (h : Int) : my n none (some (.int k h)) = if 0 ≤ h ∧ h ≤ n then some (0,h.toNat) else none := by unfold my tHi; by_cases c : 0 ≤ h ∧ h ≤ n <;> simp [c,tLo]
theorem zb5z (n : Nat) (k j : IntKind) (l h : Int) : my n (some (.int k l)) (some (.int j h)) = if (0 ≤ h ∧ h ≤ n) ∧ 0 ≤ l ∧ l ≤ h then some (l.toNat,h.toNat) else none := by
 unfold my tHi
 by_cases c : 0 ≤ h ∧ h ≤ n
 · have e : ((h.toNat : Nat) : Int) = h := by omega
   simp only [c,and_self,if_true,Option.bind_some,tLo,e,true_and]
 · have c' : ¬ ((0 ≤ h ∧ h ≤ n) ∧ 0 ≤ l ∧ l ≤ h) := fun q => c q.1
   rw [if_neg c']
   simp [c]
theorem zbqd {α β : Type} (c : Prop) [Decidable c] (x : α) (f : α → β) : (if c then some x else none : Option α).map f = if c then some (f x) else none := by by_cases h : c <;> simp [h]
def zcfc : TV → Option TV | .str s => some (.int .i64 s.size) | _ => none
theorem zbzs (x : Operand) : tG Γ dr (.lenS x) m d K fr tk τ = pK (zcfc (tO fr x)) d K fr tk τ := (kg d K fr tk τ (tP (.lenS x) fr τ)).trans (by unfold zcfc; rfl)
theorem zbyz (s : ByteArray) : zcfc (.str s) = some (.int .i64 s.size) := rfl
def zb31 : TV → Option TV | .slm _ _ n _ => some (.int .i64 n) | v => v.list.map fun l => .int .i64 l.length
theorem zbzt (x : Operand) : tG Γ dr (.lenL x) m d K fr tk τ = pK (zb31 (tO fr x)) d K fr tk τ := (kg d K fr tk τ (tP (.lenL x) fr τ)).trans (by unfold zb31; rfl)
theorem zcio (id o n s : Nat) : zb31 (.slm id o n s) = some (.int .i64 n) := rfl
theorem zbq3 (l : List TV) : zb31 (.sl l) = some (.int .i64 l.length) := rfl
theorem zcin (k : Nat) (l : List TV) : zb31 (.sla k l) = some (.int .i64 l.length) := rfl
theorem zcip : zb31 .slz = some (.int .i64 0) := rfl
def zce8 (x y : TV) : Option TV := match x,y with | .int k a,.int _ b => some (.int k (if b < a then b else a)) | _,_ => none
theorem zb7k (x y : Operand) : tG Γ dr (.min x y) m d K fr tk τ = pK (zce8 (tO fr x) (tO fr y)) d K fr tk τ := (kg d K fr tk τ (tP (.min x y) fr τ)).trans (by unfold zce8; rfl)
theorem zbym (k j : IntKind) (a b : Int) : zce8 (.int k a) (.int j b) = some (.int k (if b < a then b else a)) := rfl
def zcfa (x y : TV) : Option TV := match x,y with | .int k a,.int _ b => some (.int k (if a < b then b else a)) | _,_ => none
theorem zb7l (x y : Operand) : tG Γ dr (.max x y) m d K fr tk τ = pK (zcfa (tO fr x) (tO fr y)) d K fr tk τ := (kg d K fr tk τ (tP (.max x y) fr τ)).trans (by unfold zcfa; rfl)
theorem zbyn (k j : IntKind) (a b : Int) : zcfa (.int k a) (.int j b) = some (.int k (if a < b then b else a)) := rfl
theorem zcf0 (f : FuncId) (first captured : List Operand) : tG Γ dr (.mkFunc (.func f) first captured) m d K fr tk τ = K (gg fr d (.func f (first.map fun x => (tO fr x).canS) (captured.map fun x => (tO fr x).canS))) tk τ := rfl
def exT (i : Nat) : TV → Option TV | .tup cs => cs[i]? | _ => none
theorem zck4 (x : Operand) (i : Nat) : tG Γ dr (.extract x i) m d K fr tk τ = pK (exT i (tO fr x)) d K fr tk τ := (kg d K fr tk τ (tP (.extract x i) fr τ)).trans (by unfold exT; rfl)
theorem zb6z (i : Nat) (cs : List TV) : exT i (.tup cs) = cs[i]? := rfl
theorem zbtm (zero : List Value) (parts : List (Nat × Nat × Operand)) : tG Γ dr (.build zero parts) m d K fr tk τ = pK ((zbwv (zero.map ofS) (parts.map fun p => (p.1,p.2.1,tO fr p.2.2))).map .agg) d K fr tk τ := (kg d K fr tk τ (tP (.build zero parts) fr τ)).trans (by rfl)
theorem zczv (cs : List TV) : zbwv cs [] = some cs := rfl
theorem zc10 (cs : List TV) (off size : Nat) (v : TV) (r : List (Nat × Nat × TV)) : zbwv cs ((off,size,v) :: r) = if v.known = true ∧ v.cells.length = size ∧ off + size ≤ cs.length then zbwv (zbjk cs off (v.cells.map TV.part)) r else none := rfl
theorem zces (cs : List TV) (off : Nat) : zbjk cs off [] = cs := rfl
theorem zcbb (cs : List TV) (off : Nat) (v : TV) (r : List TV) : zbjk cs off (v :: r) = zbjk (cs.set off v) (off + 1) r := rfl
def zb3x (τ : TH) : TV → Option TV | .slm id off n s => (if s = 1 then ((zbjj τ id off n).bind wg).map fun bs => .str ⟨bs.toArray⟩ else none) | v => (v.list.bind wg).map fun bs => .str ⟨bs.toArray⟩
theorem zbtc (x : Operand) : tG Γ dr (.toStr x) m d K fr tk τ = pK (zb3x τ (tO fr x)) d K fr tk τ := (kg d K fr tk τ (tP (.toStr x) fr τ)).trans (by unfold zb3x; rfl)
theorem zckx (l : List TV) : zb3x τ (.sl l) = (wg l).map fun bs => .str ⟨bs.toArray⟩ := rfl
theorem zc0k (k : Nat) (l : List TV) : zb3x τ (.sla k l) = (wg l).map fun bs => .str ⟨bs.toArray⟩ := rfl
theorem zcj1 : zb3x τ .slz = some (.str ⟨#[]⟩) := rfl
theorem zcj0 (id off n s : Nat) : zb3x τ (.slm id off n s) = if s = 1 then ((zbjj τ id off n).bind wg).map fun bs => .str ⟨bs.toArray⟩ else none := rfl
def ixA (len : Nat) (x i : TV) : Option TV := match x,i with | .agg cs,.int _ n => if 0 ≤ n ∧ n < len ∧ len ≤ cs.length then cs[n.toNat]? else none | _,_ => none
theorem zc08 (len : Nat) (x i : Operand) : tG Γ dr (.indexAgg len x i) m d K fr tk τ = pK (ixA len (tO fr x) (tO fr i)) d K fr tk τ := (kg d K fr tk τ (tP (.indexAgg len x i) fr τ)).trans (by unfold ixA; rfl)
theorem zb6s (len : Nat) (cs : List TV) (k : IntKind) (n : Int) : ixA len (.agg cs) (.int k n) = if 0 ≤ n ∧ n < len ∧ len ≤ cs.length then cs[n.toNat]? else none := rfl
def zcfd (len sz : Nat) (x i : TV) : Option TV := match x,i with | .agg cs,.int _ n => if 0 ≤ n ∧ n < len ∧ len * sz ≤ cs.length then some (.agg ((cs.drop (n.toNat * sz)).take sz)) else none | _,_ => none
theorem zc21 (len sz : Nat) (x i : Operand) : tG Γ dr (.indexAggN len sz x i) m d K fr tk τ = pK (zcfd len sz (tO fr x) (tO fr i)) d K fr tk τ := (kg d K fr tk τ (tP (.indexAggN len sz x i) fr τ)).trans (by unfold zcfd; rfl)
theorem zby1 (len sz : Nat) (cs : List TV) (k : IntKind) (n : Int) : zcfd len sz (.agg cs) (.int k n) = if 0 ≤ n ∧ n < len ∧ len * sz ≤ cs.length then some (.agg ((cs.drop (n.toNat * sz)).take sz)) else none := rfl
def eqA (neg : Bool) (ks : List FK) (x y : TV) : Option TV := match x,y with | .agg p,.agg q => (zbt1 ks p q).map fun b => .bool (bif neg then !b else b) | _,_ => none
theorem zb7m (neg : Bool) (ks : List FK) (x y : Operand) : tG Γ dr (.eqF neg ks x y) m d K fr tk τ = pK (eqA neg ks (tO fr x) (tO fr y)) d K fr tk τ := (kg d K fr tk τ (tP (.eqF neg ks x y) fr τ)).trans (by unfold eqA; rfl)
theorem zb61 (neg : Bool) (ks : List FK) (p q : List TV) : eqA neg ks (.agg p) (.agg q) = (zbt1 ks p q).map fun b => .bool (bif neg then !b else b) := rfl
theorem zb7o (t n : Nat) (x : Operand) : tG Γ dr (.box t n x) m d K fr tk τ = (((tO fr x).cells.all TV.one = true ∧ jw τ.next ((tO fr x).cells.map TV.put) = true) ∧ K (gg fr d (.ptr τ.next 0)) tk (τ.push ⟨t,(tO fr x).cells.map TV.put⟩)) := zca3 d K fr _ _
def stK (n : Nat) (a x : TV) (d : Option Nat) (K : av) (fr : TF) (tk : TK) (τ : TH) : Prop := match a with
 | .ptr id off => x.cells.length = n ∧ (match zbz7 τ id off (x.cells.map TV.put) with | some τ' => K (gg fr d (.tup [])) tk τ' | none => False)
 | _ => False
theorem zbtd (n : Nat) (y x : Operand) : tG Γ dr (.store n y x) 0 d K fr tk τ = stK n (tO fr y) (tO fr x) d K fr tk τ := by
 have e0 : t5 (.store n y x) 0 fr τ = (fr,τ) := rfl
 simp only [tG,e0,tOp,stK]
 cases tO fr y with
 | ptr id off =>
  by_cases h : (tO fr x).cells.length = n
  · simp only [h,if_true,true_and,show (0 : Nat) = 2 ↔ False from by decide,if_false]
    cases zbz7 τ id off ((tO fr x).cells.map TV.put) <;> rfl
  · simp [h,opK]
 | _ => rfl
def stB (o : Option Ob) (id off : Nat) (vs : List TV) (d : Option Nat) (K : av) (fr : TF) (tk : TK) (τ : TH) : Prop := match o with
 | some b => (τ.lock ≤ id ∧ vs ≠ [] ∧ off + vs.length ≤ b.cs.length ∧ (vs.all TV.one = true) ∧ jw (id + 1) vs = true) ∧ K (gg fr d (.tup [])) tk (τ.put id ⟨b.t,zbjk b.cs off vs⟩)
 | none => False
theorem zbwd (n t : Nat) (x : Operand) (id o : Nat) (T : TypeId) (cs : List TV) (hz : lkp fr t = .ptr id o) (hb : τ.at id = some ⟨T,cs⟩) (hc : τ.lock ≤ id ∧ cs ≠ []) (hx : ∀ v,x ≠ .const v)
 (h : stK n (.ptr τ.next o) (ren id τ.next (tO fr x)) d K (zbjs id τ.next fr) tk ((τ.put id ⟨T,[]⟩).push ⟨T,cs⟩)) : tG Γ dr (.store n (.tmp t) x) 9 d K fr tk τ := by
 have hz' : tO fr (.tmp t) = .ptr id o := hz
 have e : t5 (.store n (.tmp t) x) 9 fr τ = (zbjs id τ.next fr,(τ.put id ⟨T,[]⟩).push ⟨T,cs⟩) := by
  unfold t5 zbz2
  rw [if_pos rfl]
  simp only [hz',hb]
  rw [if_pos hc]
 have e2 : tO (zbjs id τ.next fr) (.tmp t) = .ptr τ.next o := by
  rcases zbnm id τ.next fr (.tmp t) with e2 | ⟨v,e2⟩
  · rw [e2,hz']; simp [ren]
  · cases e2
 have e3 : tO (zbjs id τ.next fr) x = ren id τ.next (tO fr x) := by
  rcases zbnm id τ.next fr x with e3 | ⟨v,e3⟩
  · exact e3
  · exact absurd e3 (hx v)
 simp only [tG,e,tOp,e2,e3]
 unfold stK at h
 simp only at h
 rw [if_neg (by decide),if_pos h.1]
 have h2 := h.2
 revert h2
 cases zbz7 ((τ.put id ⟨T,[]⟩).push ⟨T,cs⟩) τ.next o ((ren id τ.next (tO fr x)).cells.map TV.put) <;> exact fun h => h
theorem zbnv (n id off : Nat) (x : TV) : stK n (.ptr id off) x d K fr tk τ = (x.cells.length = n ∧ stB (τ.at id) id off (x.cells.map TV.put) d K fr tk τ) := by
 simp only [stK,stB,zbz7]
 cases τ.at id with
 | none => rfl
 | some b =>
  simp only [Option.bind_some]
  split
  · rename_i τ' h
    split at h
    · rename_i hc; injection h with h; subst h; simp only [hc,ne_eq,not_false_eq_true,and_self,true_and]
    · cases h
  · rename_i h
    split at h
    · cases h
    · rename_i hc; simp only [hc,false_and]
theorem zcjz (t : TypeId) (cs : List TV) (id off : Nat) (vs : List TV) : stB (some ⟨t,cs⟩) id off vs d K fr tk τ = ((τ.lock ≤ id ∧ vs ≠ [] ∧ off + vs.length ≤ cs.length ∧ (vs.all TV.one = true) ∧ jw (id + 1) vs = true) ∧ K (gg fr d (.tup [])) tk (τ.put id ⟨t,zbjk cs off vs⟩)) := rfl
def tkB (o : Option Ob) (id off : Nat) (d : Option Nat) (K : av) (fr : TF) (tk : TK) (τ : TH) : Prop := match o with
 | some b => (match b.cs[off]? with | some (.slo t l) => τ.lock ≤ id ∧ K (gg fr d (.sla tk.length l)) (tk ++ [some (l.length,t)]) (τ.put id ⟨b.t,b.cs.set off (.sl l)⟩) | some .slz => τ.lock ≤ id ∧ K (gg fr d (.sla tk.length [])) (tk ++ [some (0,0)]) (τ.put id ⟨b.t,b.cs.set off (.sl [])⟩) | _ => False)
 | none => False
def tkK (x : TV) (d : Option Nat) (K : av) (fr : TF) (tk : TK) (τ : TH) : Prop := match x with | .ptr id off => tkB (τ.at id) id off d K fr tk τ | _ => False
def tkC (t : TypeId) (cs : List TV) (id off : Nat) (v : Option TV) (d : Option Nat) (K : av) (fr : TF) (tk : TK) (τ : TH) : Prop := match v with | some (.slo u l) => τ.lock ≤ id ∧ K (gg fr d (.sla tk.length l)) (tk ++ [some (l.length,u)]) (τ.put id ⟨t,cs.set off (.sl l)⟩) | some .slz => τ.lock ≤ id ∧ K (gg fr d (.sla tk.length [])) (tk ++ [some (0,0)]) (τ.put id ⟨t,cs.set off (.sl [])⟩) | _ => False
theorem zbtf (x : Operand) : tG Γ dr (.load1 x) 2 d K fr tk τ = tkK (tO fr x) d K fr tk τ := by
 simp only [tG,tOp,tkK,if_true]
 cases tO fr x with
 | ptr id off =>
  simp only [tkB]
  cases τ.at id with
  | none => rfl
  | some b =>
   simp only [Option.bind_some]
   cases hq : b.cs[off]? with
   | none => rfl
   | some v =>
    cases v with
    | slo t l => by_cases h : τ.lock ≤ id <;> simp [h,opK]
    | slz => by_cases h : τ.lock ≤ id <;> simp [h,opK]
    | _ => rfl
 | _ => rfl
theorem zbmx (id off : Nat) : tkK (.ptr id off) d K fr tk τ = tkB (τ.at id) id off d K fr tk τ := rfl
theorem zckm (t : TypeId) (cs : List TV) (id off : Nat) : tkB (some ⟨t,cs⟩) id off d K fr tk τ = tkC t cs id off cs[off]? d K fr tk τ := rfl
theorem zckz (t : TypeId) (cs : List TV) (id off : Nat) : tkC t cs id off (some .slz) d K fr tk τ = (τ.lock ≤ id ∧ K (gg fr d (.sla tk.length [])) (tk ++ [some (0,0)]) (τ.put id ⟨t,cs.set off (.sl [])⟩)) := rfl
theorem zcky (t u : TypeId) (cs l : List TV) (id off : Nat) : tkC t cs id off (some (.slo u l)) d K fr tk τ = (τ.lock ≤ id ∧ K (gg fr d (.sla tk.length l)) (tk ++ [some (l.length,u)]) (τ.put id ⟨t,cs.set off (.sl l)⟩)) := rfl
def s2K (n : Nat) (a x : TV) (d : Option Nat) (K : av) (fr : TF) (tk : TK) (τ : TH) : Prop := match a,x with
 | .ptr id off,.sla tok l => (match tk[tok]? with
  | some (some (k,t)) => (k = l.length ∧ n = 1) ∧ stB (τ.at id) id off [.slo t l] d K fr (tk.set tok none) τ
  | _ => False)
 | _,_ => False
def s2T (o : Option (Option (Nat × TypeId))) (n id off tok : Nat) (l : List TV) (d : Option Nat) (K : av) (fr : TF) (tk : TK) (τ : TH) : Prop := match o with
 | some (some (k,t)) => (k = l.length ∧ n = 1) ∧ stB (τ.at id) id off [.slo t l] d K fr (tk.set tok none) τ
 | _ => False
theorem zcf2 (n : Nat) (y x : Operand) : tG Γ dr (.store n y x) 2 d K fr tk τ = s2K n (tO fr y) (tO fr x) d K fr tk τ := by
 have e0 : t5 (.store n y x) 2 fr τ = (fr,τ) := rfl
 simp only [tG,e0,tOp,s2K,if_true]
 cases tO fr y with
 | ptr id off =>
  cases tO fr x with
  | sla tok l =>
   simp only
   cases tk[tok]? with
   | none => rfl
   | some o =>
    cases o with
    | none => rfl
    | some p =>
     obtain ⟨k,t⟩ := p
     by_cases h : k = l.length ∧ n = 1
     · simp only [h,and_self,if_true,true_and,zbz7,stB]
       cases τ.at id with
       | none => rfl
       | some b =>
        simp only [Option.bind_some]
        by_cases hc : τ.lock ≤ id ∧ [TV.slo t l] ≠ [] ∧ off + [TV.slo t l].length ≤ b.cs.length ∧ ([TV.slo t l].all TV.one = true) ∧ jw (id + 1) [TV.slo t l] = true
        · rw [if_pos hc]; simp only [hc,ne_eq,not_false_eq_true,and_self,true_and]; rfl
        · rw [if_neg hc]; simp only [hc,false_and]; rfl
     · simp only [h,if_false,false_and]; rfl
  | _ => rfl
 | _ => rfl
theorem zbn9 (n id off tok : Nat) (l : List TV) : s2K n (.ptr id off) (.sla tok l) d K fr tk τ = s2T (tk[tok]?) n id off tok l d K fr tk τ := rfl
theorem zcjv (n id off tok k t : Nat) (l : List TV) : s2T (some (some (k,t))) n id off tok l d K fr tk τ = ((k = l.length ∧ n = 1) ∧ stB (τ.at id) id off [.slo t l] d K fr (tk.set tok none) τ) := rfl
def bsO (m : Nat) (t sz : Nat) (o : Option (List TV)) (d : Option Nat) (K : av) (fr : TF) (tk : TK) (τ : TH) : Prop := match o with | some l => (if m = 1 then K (gg fr d (.slm τ.next 0 l.length sz)) tk (τ.push ⟨t,l.flatMap TV.cells⟩) else if m = 2 then (l ≠ [] ∧ l.length ≤ maxLen) ∧ K (gg fr d (.sla tk.length l)) (tk ++ [some (l.length,t)]) τ else K (gg fr d (.sl l)) tk τ) | none => False
theorem zck3 (t sz len : Nat) (zeros : List Value) (parts : List (Nat × Nat × Operand)) : tG Γ dr (.buildSl t sz len zeros parts) m d K fr tk τ = ((parts.length = len ∧ sz ≠ 0 ∧ zeros.length = len * sz) ∧ bsO m t sz (zbmc sz 0 (parts.map fun p => (p.1,p.2.1,tO fr p.2.2))) d K fr tk τ) := by
 simp only [tG,tOp,bsO]
 by_cases h : parts.length = len ∧ sz ≠ 0 ∧ zeros.length = len * sz
 · rw [if_pos h]
   cases zbmc sz 0 (parts.map fun p => (p.1,p.2.1,tO fr p.2.2)) with
   | none => exact propext ⟨False.elim,fun q => q.2⟩
   | some l =>
    simp only [Option.bind_some,and_iff_right h]
    by_cases h1 : m = 1
    · rw [if_pos h1,if_pos h1]; rfl
    · rw [if_neg h1,if_neg h1]
      by_cases h2 : m = 2
      · rw [if_pos h2,if_pos h2]
        by_cases h3 : l ≠ [] ∧ l.length ≤ maxLen
        · rw [if_pos h3]; exact propext ⟨fun q => ⟨h3,q⟩,fun q => q.2⟩
        · rw [if_neg h3]; exact propext ⟨False.elim,fun q => h3 q.1⟩
      · rw [if_neg h2,if_neg h2]; rfl
 · rw [if_neg h]; simp only [h,false_and]; rfl
theorem zb66 (t sz : Nat) (l : List TV) : bsO 0 t sz (some l) d K fr tk τ = K (gg fr d (.sl l)) tk τ := rfl
theorem zb65 (t sz : Nat) (l : List TV) : bsO 1 t sz (some l) d K fr tk τ = K (gg fr d (.slm τ.next 0 l.length sz)) tk (τ.push ⟨t,l.flatMap TV.cells⟩) := rfl
theorem zb64 (t sz : Nat) (l : List TV) : bsO 2 t sz (some l) d K fr tk τ = ((l ≠ [] ∧ l.length ≤ maxLen) ∧ K (gg fr d (.sla tk.length l)) (tk ++ [some (l.length,t)]) τ) := rfl
theorem zc1z (sz i : Nat) : zbmc sz i [] = some [] := rfl
theorem zcme (sz i off n : Nat) (v : TV) (r : List (Nat × Nat × TV)) : zbmc sz i ((off,n,v) :: r) = if off = i * sz ∧ n = sz ∧ v.canA.cells.length = sz ∧ v.canA.pure = true then (zbmc sz (i + 1) r).map (v.canA :: ·) else none := rfl
def msK (mu : Bool) (t bytes : Nat) (zero : List Value) (l c : TV) (d : Option Nat) (K : av) (fr : TF) (tk : TK) (τ : TH) : Prop := match l,c with
 | .int _ n,.int _ k => (0 ≤ n ∧ n ≤ k ∧ k * bytes ≤ 140737488355328 ∧ k ≤ 9223372036854775807 ∧ zero.length ≠ 0 ∧ (zero.all fun z => (ofS z).canS.pureS) = true) ∧
  (bif mu then K (gg fr d (.slm τ.next 0 n.toNat zero.length)) tk (τ.push ⟨t,((List.replicate n.toNat (zero.map fun z => (ofS z).put)).flatten)⟩) else K (gg fr d (.sl (List.replicate n.toNat (zbj9 (zero.map fun z => (ofS z).canS))))) tk τ)
 | _,_ => False
theorem zck6 (t bytes : Nat) (zero : List Value) (l c : Operand) : tG Γ dr (.makeSl t bytes zero l c) 0 d K fr tk τ = msK false t bytes zero (tO fr l) (tO fr c) d K fr tk τ := by
 simp only [tG,tOp,msK]
 cases tO fr l with
 | int k1 n =>
  cases tO fr c with
  | int k2 k =>
   simp only
   by_cases h : 0 ≤ n ∧ n ≤ k ∧ k * bytes ≤ 140737488355328 ∧ k ≤ 9223372036854775807 ∧ zero.length ≠ 0 ∧ (zero.all fun z => (ofS z).canS.pureS) = true
   · rw [if_pos h]; simp only [h,ne_eq,not_false_eq_true,and_self,true_and]; rfl
   · rw [if_neg h]; simp only [h,false_and]; rfl
  | _ => rfl
 | _ => rfl
theorem zcln (t bytes : Nat) (zero : List Value) (l c : Operand) : tG Γ dr (.makeSl t bytes zero l c) 1 d K fr tk τ = msK true t bytes zero (tO fr l) (tO fr c) d K fr tk τ := by
 simp only [tG,tOp,msK]
 cases tO fr l with
 | int k1 n =>
  cases tO fr c with
  | int k2 k =>
   simp only
   by_cases h : 0 ≤ n ∧ n ≤ k ∧ k * bytes ≤ 140737488355328 ∧ k ≤ 9223372036854775807 ∧ zero.length ≠ 0 ∧ (zero.all fun z => (ofS z).canS.pureS) = true
   · rw [if_pos h]; simp only [h,ne_eq,not_false_eq_true,and_self,true_and]; rfl
   · rw [if_neg h]; simp only [h,false_and]; rfl
  | _ => rfl
 | _ => rfl
def msA (t bytes : Nat) (zero : List Value) (l c : TV) (d : Option Nat) (K : av) (fr : TF) (tk : TK) (τ : TH) : Prop := match l,c with
 | .int _ n,.int _ k => (0 ≤ n ∧ n ≤ k ∧ k * bytes ≤ 140737488355328 ∧ k ≤ 9223372036854775807 ∧ zero.length ≠ 0 ∧ (zero.all fun z => (ofS z).canS.pureS) = true) ∧ (n = 0 ∧ zero.length = 1) ∧ K (gg fr d (.slb tk.length t)) (tk ++ [some (0,t)]) τ
 | _,_ => False
theorem zclo (t bytes : Nat) (zero : List Value) (l c : Operand) : tG Γ dr (.makeSl t bytes zero l c) 2 d K fr tk τ = msA t bytes zero (tO fr l) (tO fr c) d K fr tk τ := by
 simp only [tG,tOp,msA]
 cases tO fr l with
 | int k1 n =>
  cases tO fr c with
  | int k2 k =>
   simp only
   by_cases h : 0 ≤ n ∧ n ≤ k ∧ k * bytes ≤ 140737488355328 ∧ k ≤ 9223372036854775807 ∧ zero.length ≠ 0 ∧ (zero.all fun z => (ofS z).canS.pureS) = true
   · rw [if_pos h,if_neg (by decide),if_pos trivial]
     by_cases h2 : n = 0 ∧ zero.length = 1
     · rw [if_pos h2]; exact propext ⟨fun q => ⟨h,h2,q⟩,fun q => q.2.2⟩
     · rw [if_neg h2]; exact propext ⟨False.elim,fun q => h2 q.2.1⟩
   · rw [if_neg h]; simp only [h,false_and]; rfl
  | _ => rfl
 | _ => rfl
theorem zb6j (t bytes : Nat) (zero : List Value) (j1 j2 : IntKind) (n k : Int) : msA t bytes zero (.int j1 n) (.int j2 k) d K fr tk τ = ((0 ≤ n ∧ n ≤ k ∧ k * bytes ≤ 140737488355328 ∧ k ≤ 9223372036854775807 ∧ zero.length ≠ 0 ∧ (zero.all fun z => (ofS z).canS.pureS) = true) ∧ (n = 0 ∧ zero.length = 1) ∧ K (gg fr d (.slb tk.length t)) (tk ++ [some (0,t)]) τ) := rfl
theorem zb6i (mu : Bool) (t bytes : Nat) (zero : List Value) (j1 j2 : IntKind) (n k : Int) : msK mu t bytes zero (.int j1 n) (.int j2 k) d K fr tk τ = ((0 ≤ n ∧ n ≤ k ∧ k * bytes ≤ 140737488355328 ∧ k ≤ 9223372036854775807 ∧ zero.length ≠ 0 ∧ (zero.all fun z => (ofS z).canS.pureS) = true) ∧ (bif mu then K (gg fr d (.slm τ.next 0 n.toNat zero.length)) tk (τ.push ⟨t,((List.replicate n.toNat (zero.map fun z => (ofS z).put)).flatten)⟩) else K (gg fr d (.sl (List.replicate n.toNat (zbj9 (zero.map fun z => (ofS z).canS))))) tk τ)) := rfl
def apK (t sz bytes : Nat) (s : TV) (o : Option (List TV)) (d : Option Nat) (K : av) (fr : TF) (tk : TK) (τ : TH) : Prop := match o with
 | some xs => (match zbkm t sz bytes s xs tk with | some (v,tk') => K (gg fr d v) tk' τ | none => False)
 | none => False
def apT (o : Option (Option (Nat × TypeId))) (t sz bytes tok : Nat) (l xs : List TV) (d : Option Nat) (K : av) (fr : TF) (tk : TK) (τ : TH) : Prop := match o with
 | some (some (n,t')) => ((xs.all (fun e => e.cells.length == sz && e.pure) = true ∧ xs.length * bytes ≤ 140737488355328 ∧ xs.length ≤ maxLen) ∧ n = l.length ∧ (n = 0 ∨ t' = t) ∧ (l.all (fun e => e.cells.length == sz) = true) ∧ (l.length + xs.length) * bytes ≤ 140737488355328 ∧ l.length + xs.length ≤ maxLen) ∧
  K (gg fr d (.sla tok (l ++ xs))) (tk.set tok (some (l.length + xs.length,t))) τ
 | _ => False
theorem zcfw (t sz bytes : Nat) (s x : Operand) : tG Γ dr (.append t sz bytes s x) 0 d K fr tk τ = (sz ≠ 0 ∧ apK t sz bytes (tO fr s) (tO fr x).list d K fr tk τ) := by
 simp only [tG,tOp,apK]
 by_cases h : sz = 0
 · simp [h,opK]
 · simp only [h,if_false,ne_eq,not_false_eq_true,true_and]
   cases (tO fr x).list with
   | none => rfl
   | some xs =>
    simp only [Option.bind_some,show (0 : Nat) = 1 ↔ False from by decide,if_false]
    cases zbkm t sz bytes (tO fr s) xs tk <;> rfl
def amK (t sz bytes : Nat) (s : TV) (o : Option (List TV)) (d : Option Nat) (K : av) (fr : TF) (tk : TK) (τ : TH) : Prop := match o with
 | some xs => (match zbkl t sz bytes s xs τ with | some (v,τ') => K (gg fr d v) tk τ' | none => False)
 | none => False
def amO (b : Option Ob) (t sz bytes id n : Nat) (xs : List TV) (d : Option Nat) (K : av) (fr : TF) (tk : TK) (τ : TH) : Prop := match b with
 | some b => (b.t = t ∧ b.cs.length = n * sz ∧ n ≠ 0 ∧ τ.lock ≤ id ∧ (n + xs.length) * bytes ≤ 140737488355328 ∧ n + xs.length ≤ maxLen) ∧ K (gg fr d (.slm τ.next 0 (n + xs.length) sz)) tk ((τ.put id ⟨t,[]⟩).push ⟨t,b.cs ++ xs.flatMap TV.cells⟩)
 | none => False
theorem zck0 (t sz bytes : Nat) (s x : Operand) : tG Γ dr (.append t sz bytes s x) 1 d K fr tk τ = (sz ≠ 0 ∧ amK t sz bytes (tO fr s) (tO fr x).list d K fr tk τ) := by
 simp only [tG,tOp,amK]
 by_cases h : sz = 0
 · simp [h,opK]
 · simp only [h,if_false,ne_eq,not_false_eq_true,true_and]
   cases (tO fr x).list with
   | none => rfl
   | some xs =>
    simp only [Option.bind_some,if_true]
    cases zbkl t sz bytes (tO fr s) xs τ <;> rfl
theorem zbsv (t sz bytes : Nat) (xs : List TV) : amK t sz bytes .slz (some xs) d K fr tk τ = ((xs ≠ [] ∧ xs.all (fun e => e.cells.length == sz && e.pure) = true) ∧ (xs.length * bytes ≤ 140737488355328 ∧ xs.length ≤ maxLen) ∧ K (gg fr d (.slm τ.next 0 xs.length sz)) tk (τ.push ⟨t,xs.flatMap TV.cells⟩)) := by
 simp only [amK,zbkl]
 by_cases h : xs ≠ [] ∧ xs.all (fun e => e.cells.length == sz && e.pure) = true
 · rw [if_pos h]
   by_cases h2 : xs.length * bytes ≤ 140737488355328 ∧ xs.length ≤ maxLen
   · rw [if_pos h2]; exact propext ⟨fun q => ⟨h,h2,q⟩,fun q => q.2.2⟩
   · rw [if_neg h2]; exact propext ⟨False.elim,fun q => h2 q.2.1⟩
 · rw [if_neg h]; exact propext ⟨False.elim,fun q => h q.1⟩
theorem zbsw (t sz bytes id n : Nat) (xs : List TV) : amK t sz bytes (.slm id 0 n sz) (some xs) d K fr tk τ = ((xs ≠ [] ∧ xs.all (fun e => e.cells.length == sz && e.pure) = true) ∧ amO (τ.at id) t sz bytes id n xs d K fr tk τ) := by
 simp only [amK,zbkl,amO]
 by_cases h : xs ≠ [] ∧ xs.all (fun e => e.cells.length == sz && e.pure) = true
 · rw [if_pos h]
   cases τ.at id with
   | none => exact propext ⟨False.elim,fun q => q.2⟩
   | some b =>
    simp only [Option.bind_some,true_and]
    by_cases h2 : b.t = t ∧ b.cs.length = n * sz ∧ n ≠ 0 ∧ τ.lock ≤ id ∧ (n + xs.length) * bytes ≤ 140737488355328 ∧ n + xs.length ≤ maxLen
    · rw [if_pos h2]; exact propext ⟨fun q => ⟨h,h2,q⟩,fun q => q.2.2⟩
    · rw [if_neg h2]; exact propext ⟨False.elim,fun q => h2 q.2.1⟩
 · rw [if_neg h]; exact propext ⟨False.elim,fun q => h q.1⟩
theorem zcgu (t u sz bytes id n : Nat) (cs xs : List TV) : amO (some ⟨u,cs⟩) t sz bytes id n xs d K fr tk τ = ((u = t ∧ cs.length = n * sz ∧ n ≠ 0 ∧ τ.lock ≤ id ∧ (n + xs.length) * bytes ≤ 140737488355328 ∧ n + xs.length ≤ maxLen) ∧ K (gg fr d (.slm τ.next 0 (n + xs.length) sz)) tk ((τ.put id ⟨t,[]⟩).push ⟨t,cs ++ xs.flatMap TV.cells⟩)) := rfl
def atK (t sz bytes : Nat) (s : TV) (o : Option (List TV)) (d : Option Nat) (K : av) (fr : TF) (tk : TK) (τ : TH) : Prop := match o with
 | some xs => (match zbng t sz bytes s xs τ with | some (v,τ') => K (gg fr d v) tk τ' | none => False)
 | none => False
def atO (b : Option Ob) (t sz bytes id n : Nat) (xs : List TV) (d : Option Nat) (K : av) (fr : TF) (tk : TK) (τ : TH) : Prop := match b with
 | some b => (b.t = t ∧ n * sz ≤ b.cs.length ∧ b.cs ≠ [] ∧ τ.lock ≤ id ∧ (n + xs.length) * bytes ≤ 140737488355328 ∧ n + xs.length ≤ maxLen) ∧ K (gg fr d (.slm τ.next 0 (n + xs.length) sz)) tk ((τ.put id ⟨t,[]⟩).push ⟨t,b.cs.take (n * sz) ++ xs.flatMap TV.cells⟩)
 | none => False
theorem zck1 (t sz bytes : Nat) (s x : Operand) : tG Γ dr (.append t sz bytes s x) 4 d K fr tk τ = (sz ≠ 0 ∧ atK t sz bytes (tO fr s) (tO fr x).list d K fr tk τ) := by
 simp only [tG,tOp,atK]
 by_cases h : sz = 0
 · simp [h,opK]
 · simp only [h,if_false,ne_eq,not_false_eq_true,true_and]
   cases (tO fr x).list with
   | none => rfl
   | some xs =>
    simp only [Option.bind_some,if_true]
    cases zbng t sz bytes (tO fr s) xs τ <;> rfl
theorem zbsm (t sz bytes id n : Nat) (xs : List TV) : atK t sz bytes (.slm id 0 n sz) (some xs) d K fr tk τ = ((xs ≠ [] ∧ xs.all (fun e => e.cells.length == sz && e.pure) = true) ∧ atO (τ.at id) t sz bytes id n xs d K fr tk τ) := by
 simp only [atK,zbng,atO]
 by_cases h : xs ≠ [] ∧ xs.all (fun e => e.cells.length == sz && e.pure) = true
 · rw [if_pos h]
   cases τ.at id with
   | none => exact propext ⟨False.elim,fun q => q.2⟩
   | some b =>
    simp only [Option.bind_some,true_and]
    by_cases h2 : b.t = t ∧ n * sz ≤ b.cs.length ∧ b.cs ≠ [] ∧ τ.lock ≤ id ∧ (n + xs.length) * bytes ≤ 140737488355328 ∧ n + xs.length ≤ maxLen
    · rw [if_pos h2]; exact propext ⟨fun q => ⟨h,h2,q⟩,fun q => q.2.2⟩
    · rw [if_neg h2]; exact propext ⟨False.elim,fun q => h2 q.2.1⟩
 · rw [if_neg h]; exact propext ⟨False.elim,fun q => h q.1⟩
theorem zcg0 (t u sz bytes id n : Nat) (cs xs : List TV) : atO (some ⟨u,cs⟩) t sz bytes id n xs d K fr tk τ = ((u = t ∧ n * sz ≤ cs.length ∧ cs ≠ [] ∧ τ.lock ≤ id ∧ (n + xs.length) * bytes ≤ 140737488355328 ∧ n + xs.length ≤ maxLen) ∧ K (gg fr d (.slm τ.next 0 (n + xs.length) sz)) tk ((τ.put id ⟨t,[]⟩).push ⟨t,cs.take (n * sz) ++ xs.flatMap TV.cells⟩)) := rfl
theorem zbss (t sz bytes : Nat) (xs : List TV) : apK t sz bytes .slz (some xs) d K fr tk τ = ((xs.all (fun e => e.cells.length == sz && e.pure) = true ∧ xs.length * bytes ≤ 140737488355328 ∧ xs.length ≤ maxLen) ∧ K (gg fr d (.sla tk.length xs)) (tk ++ [some (xs.length,t)]) τ) := by
 simp only [apK,zbkm]
 by_cases h : xs.all (fun e => e.cells.length == sz && e.pure) = true ∧ xs.length * bytes ≤ 140737488355328 ∧ xs.length ≤ maxLen
 · rw [if_pos h]; simp only [h,and_self,true_and]
 · rw [if_neg h]; simp only [h,false_and]
theorem zbsu (t sz bytes tok : Nat) (l xs : List TV) : apK t sz bytes (.sla tok l) (some xs) d K fr tk τ = apT (tk[tok]?) t sz bytes tok l xs d K fr tk τ := by
 simp only [apK,zbkm,apT]
 by_cases h : xs.all (fun e => e.cells.length == sz && e.pure) = true ∧ xs.length * bytes ≤ 140737488355328 ∧ xs.length ≤ maxLen
 · rw [if_pos h]
   cases tk[tok]? with
   | none => rfl
   | some o =>
    cases o with
    | none => rfl
    | some p =>
     obtain ⟨n,t'⟩ := p
     simp only
     by_cases h2 : n = l.length ∧ (n = 0 ∨ t' = t) ∧ (l.all (fun e => e.cells.length == sz) = true) ∧ (l.length + xs.length) * bytes ≤ 140737488355328 ∧ l.length + xs.length ≤ maxLen
     · rw [if_pos h2]; exact propext ⟨fun q => ⟨⟨h,h2⟩,q⟩,fun q => q.2⟩
     · rw [if_neg h2]; simp only [h2,and_false,false_and]
 · rw [if_neg h]
   cases tk[tok]? with
   | none => rfl
   | some o =>
    cases o with
    | none => rfl
    | some p => simp only [h,false_and]
theorem zcgw (n t' t sz bytes tok : Nat) (l xs : List TV) : apT (some (some (n,t'))) t sz bytes tok l xs d K fr tk τ = (((xs.all (fun e => e.cells.length == sz && e.pure) = true ∧ xs.length * bytes ≤ 140737488355328 ∧ xs.length ≤ maxLen) ∧ n = l.length ∧ (n = 0 ∨ t' = t) ∧ (l.all (fun e => e.cells.length == sz) = true) ∧ (l.length + xs.length) * bytes ≤ 140737488355328 ∧ l.length + xs.length ≤ maxLen) ∧ K (gg fr d (.sla tok (l ++ xs))) (tk.set tok (some (l.length + xs.length,t))) τ) := rfl
def apB (o : Option (Option (Nat × TypeId))) (t sz bytes tok t0 : Nat) (xs : List TV) (d : Option Nat) (K : av) (fr : TF) (tk : TK) (τ : TH) : Prop := match o with
 | some (some (n,t')) => ((xs.all (fun e => e.cells.length == sz && e.pure) = true ∧ xs.length * bytes ≤ 140737488355328 ∧ xs.length ≤ maxLen) ∧ n = 0 ∧ t0 = t ∧ sz = 1 ∧ xs ≠ []) ∧
  K (gg fr d (.sla tok xs)) (tk.set tok (some (xs.length,t))) τ
 | _ => False
theorem zbst (t sz bytes tok t0 : Nat) (xs : List TV) : apK t sz bytes (.slb tok t0) (some xs) d K fr tk τ = apB (tk[tok]?) t sz bytes tok t0 xs d K fr tk τ := by
 simp only [apK,zbkm,apB]
 by_cases h : xs.all (fun e => e.cells.length == sz && e.pure) = true ∧ xs.length * bytes ≤ 140737488355328 ∧ xs.length ≤ maxLen
 · rw [if_pos h]
   cases tk[tok]? with
   | none => rfl
   | some o =>
    cases o with
    | none => rfl
    | some p =>
     obtain ⟨n,t'⟩ := p
     simp only
     by_cases h2 : n = 0 ∧ t0 = t ∧ sz = 1 ∧ xs ≠ []
     · rw [if_pos h2]; exact propext ⟨fun q => ⟨⟨h,h2⟩,q⟩,fun q => q.2⟩
     · rw [if_neg h2]; simp only [h2,and_false,false_and]
 · rw [if_neg h]
   cases tk[tok]? with
   | none => rfl
   | some o =>
    cases o with
    | none => rfl
    | some p => simp only [h,false_and]
theorem zcgv (n t' t sz bytes tok t0 : Nat) (xs : List TV) : apB (some (some (n,t'))) t sz bytes tok t0 xs d K fr tk τ = (((xs.all (fun e => e.cells.length == sz && e.pure) = true ∧ xs.length * bytes ≤ 140737488355328 ∧ xs.length ≤ maxLen) ∧ n = 0 ∧ t0 = t ∧ sz = 1 ∧ xs ≠ []) ∧ K (gg fr d (.sla tok xs)) (tk.set tok (some (xs.length,t))) τ) := rfl
def asK (t : Nat) (s x : TV) (d : Option Nat) (K : av) (fr : TF) (tk : TK) (τ : TH) : Prop := match x with | .str b => apK t 1 1 s (some (ce b)) d K fr tk τ | _ => False
theorem zck2 (t : Nat) (s x : Operand) : tG Γ dr (.appendS t s x) m d K fr tk τ = asK t (tO fr s) (tO fr x) d K fr tk τ := by
 simp only [tG,tOp,asK,apK]
 cases tO fr x with
 | str b => simp only; cases zbkm t 1 1 (tO fr s) (ce b) tk <;> rfl
 | _ => rfl
theorem zb69 (t : Nat) (s : TV) (b : ByteArray) : asK t s (.str b) d K fr tk τ = apK t 1 1 s (some (ce b)) d K fr tk τ := rfl
def tbK (mu : Bool) (t : Nat) (x : TV) (d : Option Nat) (K : av) (fr : TF) (tk : TK) (τ : TH) : Prop := match x with | .str s => (bif mu then K (gg fr d (.slm τ.next 0 s.size 1)) tk (τ.push ⟨t,ce s⟩) else K (gg fr d (.sl (ce s))) tk τ) | _ => False
theorem zc1c (t : Nat) (x : Operand) : tG Γ dr (.toBytes t x) 0 d K fr tk τ = tbK false t (tO fr x) d K fr tk τ := by
 simp only [tG,tOp,tbK]
 cases tO fr x <;> rfl
theorem zc0m (t : Nat) (x : Operand) : tG Γ dr (.toBytes t x) 1 d K fr tk τ = tbK true t (tO fr x) d K fr tk τ := by
 simp only [tG,tOp,tbK]
 cases tO fr x <;> rfl
def tbA (t : Nat) (x : TV) (d : Option Nat) (K : av) (fr : TF) (tk : TK) (τ : TH) : Prop := match x with | .str s => K (gg fr d (if s.size = 0 then .slb tk.length t else .sla tk.length (ce s))) (tk ++ [some (s.size,t)]) τ | _ => False
theorem zc0n (t : Nat) (x : Operand) : tG Γ dr (.toBytes t x) 2 d K fr tk τ = tbA t (tO fr x) d K fr tk τ := by
 simp only [tG,tOp,tbA]
 cases tO fr x <;> rfl
theorem zb51 (t : Nat) (s : ByteArray) : tbA t (.str s) d K fr tk τ = K (gg fr d (if s.size = 0 then .slb tk.length t else .sla tk.length (ce s))) (tk ++ [some (s.size,t)]) τ := rfl
theorem zb50 (mu : Bool) (t : Nat) (s : ByteArray) : tbK mu t (.str s) d K fr tk τ = (bif mu then K (gg fr d (.slm τ.next 0 s.size 1)) tk (τ.push ⟨t,ce s⟩) else K (gg fr d (.sl (ce s))) tk τ) := rfl
theorem zb7h (t : Nat) : tO fr (.tmp t) = lkp fr t := rfl
theorem zbzl (k : IntKind) (n : Int) : tO fr (.const (.int k n)) = .int k n := rfl
theorem zbtb (c : Bool) : tO fr (.const (.bool c)) = .bool c := rfl
theorem zbzk (s : ByteArray) : tO fr (.const (.string s)) = .str s := rfl
theorem zbs7 : tO fr (.const (.pointer none)) = .nilP := rfl
theorem zbs6 : tO fr (.const (.slice none 0 0)) = .slz := rfl
theorem zbs8 : tO fr (.const (.map none)) = .nilM := rfl
theorem zbta : tO fr (.const .nilFunc) = .nilF := rfl
theorem zbs9 : tO fr (.const .nilIface) = .nilI := rfl
theorem zbzj (f : FuncId) : tO fr (.func f) = .func f [] [] := rfl
theorem zbzm (cs : List Value) : tO fr (.const (.agg cs.toArray)) = .agg (cs.map ofS) := rfl
theorem zbp7 (k : IntKind) (n : Int) : ofS (.int k n) = .int k n := rfl
theorem zcid (c : Bool) : ofS (.bool c) = .bool c := rfl
theorem zbp6 (s : ByteArray) : ofS (.string s) = .str s := rfl
theorem zcih : ofS (.pointer none) = .nilP := rfl
theorem zcjc : ofS (.slice none 0 0) = .slz := rfl
theorem zcig : ofS (.map none) = .nilM := rfl
theorem zcie : ofS .nilFunc = .nilF := rfl
theorem zcif : ofS .nilIface = .nilI := rfl
theorem zbqw (t : Nat) (v : TV) (l : TF) : lkp ((t,v) :: l) t = v := by simp [lkp]
theorem zch1 (t k : Nat) (v : TV) (l : TF) (h : (t = k) = False) : lkp ((k,v) :: l) t = lkp l t := by simp [lkp,h]
theorem zcz0 (t : Nat) (v : TV) : gg fr (some t) v = (t,v) :: fr := rfl
theorem zczz (v : TV) : gg fr none v = fr := rfl
theorem zbxz : sel lv fr = lv.map fun t => (t,lkp fr t) := rfl
theorem zcgz (k : Nat) : zbt3 k [] = [] := rfl
theorem zck8 (k : Nat) (v : TV) (l : List TV) : zbt3 k (v :: l) = (k,v) :: zbt3 (k + 1) l := rfl
end
theorem zc2u   : TV.cells  TV.undef = [TV.undef ] := rfl
theorem zc0v  (b : Bool) : TV.cells  (TV.bool b) = [TV.bool b] := rfl
theorem zcxm  (k : IntKind) (n : Int) : TV.cells  (TV.int k n) = [TV.int k n] := rfl
theorem zcxt  (s : ByteArray) : TV.cells  (TV.str s) = [TV.str s] := rfl
theorem zc00   : TV.cells  TV.nilP = [TV.nilP ] := rfl
theorem zcxn  (id off : Nat) : TV.cells  (TV.ptr id off) = [TV.ptr id off] := rfl
theorem zc01  (cs : List TV) (off : Nat) : TV.cells  (TV.rptr cs off) = [TV.rptr cs off] := rfl
theorem zcxs   : TV.cells  TV.slz = [TV.slz ] := rfl
theorem zcg3  (l : List TV) : TV.cells  (TV.sl l) = [TV.sl l] := rfl
theorem zcxo  (k : Nat) (l : List TV) : TV.cells  (TV.sla k l) = [TV.sla k l] := rfl
theorem zcxp  (k : Nat) (t : TypeId) : TV.cells  (TV.slb k t) = [TV.slb k t] := rfl
theorem zcxr  (t : TypeId) (l : List TV) : TV.cells  (TV.slo t l) = [TV.slo t l] := rfl
theorem zcxq  (id off n sz : Nat) : TV.cells  (TV.slm id off n sz) = [TV.slm id off n sz] := rfl
theorem zc0z   : TV.cells  TV.nilM = [TV.nilM ] := rfl
theorem zc0x   : TV.cells  TV.nilF = [TV.nilF ] := rfl
theorem zc0w  (f : FuncId) (a b : List TV) : TV.cells  (TV.func f a b) = [TV.func f a b] := rfl
theorem zc0y   : TV.cells  TV.nilI = [TV.nilI ] := rfl
theorem zcxl  (cs : List TV) : TV.cells  (TV.agg cs) = cs := rfl
theorem zcxu  (cs : List TV) : TV.cells  (TV.tup cs) = [TV.tup cs] := rfl
theorem zczh   : TV.one  TV.undef = false := rfl
theorem zcjd  (b : Bool) : TV.one  (TV.bool b) = true := rfl
theorem zbpy  (k : IntKind) (n : Int) : TV.one  (TV.int k n) = true := rfl
theorem zbpr  (s : ByteArray) : TV.one  (TV.str s) = true := rfl
theorem zcji   : TV.one  TV.nilP = true := rfl
theorem zbpx  (id off : Nat) : TV.one  (TV.ptr id off) = true := rfl
theorem zcjj  (cs : List TV) (off : Nat) : TV.one  (TV.rptr cs off) = false := rfl
theorem zbps   : TV.one  TV.slz = true := rfl
theorem zbyi  (l : List TV) : TV.one  (TV.sl l) = true := rfl
theorem zbpw  (k : Nat) (l : List TV) : TV.one  (TV.sla k l) = true := rfl
theorem zbpv  (k : Nat) (t : TypeId) : TV.one  (TV.slb k t) = true := rfl
theorem zbpt  (t : TypeId) (l : List TV) : TV.one  (TV.slo t l) = true := rfl
theorem zbpu  (id off n sz : Nat) : TV.one  (TV.slm id off n sz) = true := rfl
theorem zcjh   : TV.one  TV.nilM = true := rfl
theorem zcjf   : TV.one  TV.nilF = true := rfl
theorem zcje  (f : FuncId) (a b : List TV) : TV.one  (TV.func f a b) = true := rfl
theorem zcjg   : TV.one  TV.nilI = true := rfl
theorem zbpz  (cs : List TV) : TV.one  (TV.agg cs) = false := rfl
theorem zbpq  (cs : List TV) : TV.one  (TV.tup cs) = false := rfl
theorem zclt   : TV.known  TV.undef = false := rfl
theorem zc14  (b : Bool) : TV.known  (TV.bool b) = true := rfl
theorem zcyc  (k : IntKind) (n : Int) : TV.known  (TV.int k n) = true := rfl
theorem zcyj  (s : ByteArray) : TV.known  (TV.str s) = true := rfl
theorem zc1e   : TV.known  TV.nilP = true := rfl
theorem zcyd  (id off : Nat) : TV.known  (TV.ptr id off) = true := rfl
theorem zc1f  (cs : List TV) (off : Nat) : TV.known  (TV.rptr cs off) = true := rfl
theorem zcyi   : TV.known  TV.slz = true := rfl
theorem zcik  (l : List TV) : TV.known  (TV.sl l) = true := rfl
theorem zcye  (k : Nat) (l : List TV) : TV.known  (TV.sla k l) = true := rfl
theorem zcyf  (k : Nat) (t : TypeId) : TV.known  (TV.slb k t) = true := rfl
theorem zcyh  (t : TypeId) (l : List TV) : TV.known  (TV.slo t l) = true := rfl
theorem zcyg  (id off n sz : Nat) : TV.known  (TV.slm id off n sz) = true := rfl
theorem zc1d   : TV.known  TV.nilM = true := rfl
theorem zc16   : TV.known  TV.nilF = true := rfl
theorem zc15  (f : FuncId) (a b : List TV) : TV.known  (TV.func f a b) = true := rfl
theorem zc17   : TV.known  TV.nilI = true := rfl
theorem zcyb  (cs : List TV) : TV.known  (TV.agg cs) = true := rfl
theorem zcyk  (cs : List TV) : TV.known  (TV.tup cs) = true := rfl
theorem zc0s   : TV.canS  TV.undef = TV.undef  := rfl
theorem zclj  (b : Bool) : TV.canS  (TV.bool b) = TV.bool b := rfl
theorem zcgl  (k : IntKind) (n : Int) : TV.canS  (TV.int k n) = TV.int k n := rfl
theorem zcgs  (s : ByteArray) : TV.canS  (TV.str s) = TV.str s := rfl
theorem zcx1   : TV.canS  TV.nilP = TV.nilP  := rfl
theorem zcgm  (id off : Nat) : TV.canS  (TV.ptr id off) = TV.ptr id off := rfl
theorem zcx2  (cs : List TV) (off : Nat) : TV.canS  (TV.rptr cs off) = TV.rptr cs off := rfl
theorem zcgr   : TV.canS  TV.slz = .sl [] := rfl
theorem zbr8  (l : List TV) : TV.canS  (TV.sl l) = TV.sl l := rfl
theorem zcgn  (k : Nat) (l : List TV) : TV.canS  (TV.sla k l) = .sl l := rfl
theorem zcgo  (k : Nat) (t : TypeId) : TV.canS  (TV.slb k t) = .sl [] := rfl
theorem zcgq  (t : TypeId) (l : List TV) : TV.canS  (TV.slo t l) = TV.slo t l := rfl
theorem zcgp  (id off n sz : Nat) : TV.canS  (TV.slm id off n sz) = TV.slm id off n sz := rfl
theorem zcx0   : TV.canS  TV.nilM = TV.nilM  := rfl
theorem zcll   : TV.canS  TV.nilF = TV.nilF  := rfl
theorem zclk  (f : FuncId) (a b : List TV) : TV.canS  (TV.func f a b) = TV.func f a b := rfl
theorem zclm   : TV.canS  TV.nilI = TV.nilI  := rfl
theorem zcgk  (cs : List TV) : TV.canS  (TV.agg cs) = TV.agg cs := rfl
theorem zchm  (cs : List TV) : TV.canS  (TV.tup cs) = TV.tup cs := rfl
theorem zc0r   : TV.canA  TV.undef = TV.undef  := rfl
theorem zclc  (b : Bool) : TV.canA  (TV.bool b) = TV.bool b := rfl
theorem zcgb  (k : IntKind) (n : Int) : TV.canA  (TV.int k n) = TV.int k n := rfl
theorem zcgi  (s : ByteArray) : TV.canA  (TV.str s) = TV.str s := rfl
theorem zclh   : TV.canA  TV.nilP = TV.nilP  := rfl
theorem zcgc  (id off : Nat) : TV.canA  (TV.ptr id off) = TV.ptr id off := rfl
theorem zcli  (cs : List TV) (off : Nat) : TV.canA  (TV.rptr cs off) = TV.rptr cs off := rfl
theorem zcgh   : TV.canA  TV.slz = .sl [] := rfl
theorem zbr9  (l : List TV) : TV.canA  (TV.sl l) = TV.sl l := rfl
theorem zcgd  (k : Nat) (l : List TV) : TV.canA  (TV.sla k l) = .sl l := rfl
theorem zcge  (k : Nat) (t : TypeId) : TV.canA  (TV.slb k t) = .sl [] := rfl
theorem zcgg  (t : TypeId) (l : List TV) : TV.canA  (TV.slo t l) = TV.slo t l := rfl
theorem zcgf  (id off n sz : Nat) : TV.canA  (TV.slm id off n sz) = TV.slm id off n sz := rfl
theorem zclg   : TV.canA  TV.nilM = TV.nilM  := rfl
theorem zcle   : TV.canA  TV.nilF = TV.nilF  := rfl
theorem zcld  (f : FuncId) (a b : List TV) : TV.canA  (TV.func f a b) = TV.func f a b := rfl
theorem zclf   : TV.canA  TV.nilI = TV.nilI  := rfl
theorem zcga  (cs : List TV) : TV.canA  (TV.agg cs) = .agg (cs.map TV.canS) := rfl
theorem zcgj  (cs : List TV) : TV.canA  (TV.tup cs) = TV.tup cs := rfl
theorem zc0t   : TV.canT  TV.undef = TV.undef  := rfl
theorem zcx3  (b : Bool) : TV.canT  (TV.bool b) = TV.bool b := rfl
theorem zcho  (k : IntKind) (n : Int) : TV.canT  (TV.int k n) = TV.int k n := rfl
theorem zchv  (s : ByteArray) : TV.canT  (TV.str s) = TV.str s := rfl
theorem zcx8   : TV.canT  TV.nilP = TV.nilP  := rfl
theorem zchp  (id off : Nat) : TV.canT  (TV.ptr id off) = TV.ptr id off := rfl
theorem zcx9  (cs : List TV) (off : Nat) : TV.canT  (TV.rptr cs off) = TV.rptr cs off := rfl
theorem zchu   : TV.canT  TV.slz = .sl [] := rfl
theorem zbr7  (l : List TV) : TV.canT  (TV.sl l) = TV.sl l := rfl
theorem zchq  (k : Nat) (l : List TV) : TV.canT  (TV.sla k l) = .sl l := rfl
theorem zchr  (k : Nat) (t : TypeId) : TV.canT  (TV.slb k t) = .sl [] := rfl
theorem zcht  (t : TypeId) (l : List TV) : TV.canT  (TV.slo t l) = TV.slo t l := rfl
theorem zchs  (id off n sz : Nat) : TV.canT  (TV.slm id off n sz) = TV.slm id off n sz := rfl
theorem zcx7   : TV.canT  TV.nilM = TV.nilM  := rfl
theorem zcx5   : TV.canT  TV.nilF = TV.nilF  := rfl
theorem zcx4  (f : FuncId) (a b : List TV) : TV.canT  (TV.func f a b) = TV.func f a b := rfl
theorem zcx6   : TV.canT  TV.nilI = TV.nilI  := rfl
theorem zchn  (cs : List TV) : TV.canT  (TV.agg cs) = .agg (cs.map TV.canS) := rfl
theorem zcg2  (cs : List TV) : TV.canT  (TV.tup cs) = .tup (cs.map TV.canA) := rfl
theorem zc1m   : TV.part  TV.undef = TV.undef  := rfl
theorem zczi  (b : Bool) : TV.part  (TV.bool b) = TV.bool b := rfl
theorem zcis  (k : IntKind) (n : Int) : TV.part  (TV.int k n) = TV.int k n := rfl
theorem zciz  (s : ByteArray) : TV.part  (TV.str s) = TV.str s := rfl
theorem zczo   : TV.part  TV.nilP = TV.nilP  := rfl
theorem zcit  (id off : Nat) : TV.part  (TV.ptr id off) = TV.ptr id off := rfl
theorem zczp  (cs : List TV) (off : Nat) : TV.part  (TV.rptr cs off) = TV.rptr cs off := rfl
theorem zciy   : TV.part  TV.slz = TV.slz  := rfl
theorem zbpn  (l : List TV) : TV.part  (TV.sl l) = TV.sl l := rfl
theorem zciu  (k : Nat) (l : List TV) : TV.part  (TV.sla k l) = .sl l := rfl
theorem zciv  (k : Nat) (t : TypeId) : TV.part  (TV.slb k t) = .sl [] := rfl
theorem zcix  (t : TypeId) (l : List TV) : TV.part  (TV.slo t l) = TV.slo t l := rfl
theorem zciw  (id off n sz : Nat) : TV.part  (TV.slm id off n sz) = TV.slm id off n sz := rfl
theorem zczn   : TV.part  TV.nilM = TV.nilM  := rfl
theorem zczl   : TV.part  TV.nilF = TV.nilF  := rfl
theorem zczk  (f : FuncId) (a b : List TV) : TV.part  (TV.func f a b) = TV.func f a b := rfl
theorem zczm   : TV.part  TV.nilI = TV.nilI  := rfl
theorem zcir  (cs : List TV) : TV.part  (TV.agg cs) = TV.agg cs := rfl
theorem zci0  (cs : List TV) : TV.part  (TV.tup cs) = TV.tup cs := rfl
theorem zczb   : TV.put  TV.undef = TV.undef  := rfl
theorem zcj6  (b : Bool) : TV.put  (TV.bool b) = TV.bool b := rfl
theorem zbpg  (k : IntKind) (n : Int) : TV.put  (TV.int k n) = TV.int k n := rfl
theorem zbo9  (s : ByteArray) : TV.put  (TV.str s) = TV.str s := rfl
theorem zckb   : TV.put  TV.nilP = TV.nilP  := rfl
theorem zbpf  (id off : Nat) : TV.put  (TV.ptr id off) = TV.ptr id off := rfl
theorem zckc  (cs : List TV) (off : Nat) : TV.put  (TV.rptr cs off) = TV.rptr cs off := rfl
theorem zbpa   : TV.put  TV.slz = TV.slz  := rfl
theorem zbyf  (l : List TV) : TV.put  (TV.sl l) = TV.sl l := rfl
theorem zbpe  (k : Nat) (l : List TV) : TV.put  (TV.sla k l) = .sl l := rfl
theorem zbpd  (k : Nat) (t : TypeId) : TV.put  (TV.slb k t) = .sl [] := rfl
theorem zbpb  (t : TypeId) (l : List TV) : TV.put  (TV.slo t l) = TV.slo t l := rfl
theorem zbpc  (id off n sz : Nat) : TV.put  (TV.slm id off n sz) = TV.slm id off n sz := rfl
theorem zcka   : TV.put  TV.nilM = TV.nilM  := rfl
theorem zcj8   : TV.put  TV.nilF = TV.nilF  := rfl
theorem zcj7  (f : FuncId) (a b : List TV) : TV.put  (TV.func f a b) = TV.func f a b := rfl
theorem zcj9   : TV.put  TV.nilI = TV.nilI  := rfl
theorem zbph  (cs : List TV) : TV.put  (TV.agg cs) = TV.agg cs := rfl
theorem zbo8  (cs : List TV) : TV.put  (TV.tup cs) = TV.tup cs := rfl
theorem zcke   : TV.rd  TV.undef = TV.undef  := rfl
theorem zbo4  (b : Bool) : TV.rd  (TV.bool b) = TV.bool b := rfl
theorem zbyd  (k : IntKind) (n : Int) : TV.rd  (TV.int k n) = TV.int k n := rfl
theorem zbx6  (s : ByteArray) : TV.rd  (TV.str s) = TV.str s := rfl
theorem zboy   : TV.rd  TV.nilP = TV.nilP  := rfl
theorem zbyc  (id off : Nat) : TV.rd  (TV.ptr id off) = TV.ptr id off := rfl
theorem zbox  (cs : List TV) (off : Nat) : TV.rd  (TV.rptr cs off) = TV.rptr cs off := rfl
theorem zbx7   : TV.rd  TV.slz = TV.slz  := rfl
theorem zb6a  (l : List TV) : TV.rd  (TV.sl l) = TV.sl l := rfl
theorem zbyb  (k : Nat) (l : List TV) : TV.rd  (TV.sla k l) = TV.sla k l := rfl
theorem zbya  (k : Nat) (t : TypeId) : TV.rd  (TV.slb k t) = TV.slb k t := rfl
theorem zbx8  (t : TypeId) (l : List TV) : TV.rd  (TV.slo t l) = .sl l := rfl
theorem zbx9  (id off n sz : Nat) : TV.rd  (TV.slm id off n sz) = TV.slm id off n sz := rfl
theorem zboz   : TV.rd  TV.nilM = TV.nilM  := rfl
theorem zbo1   : TV.rd  TV.nilF = TV.nilF  := rfl
theorem zbo3  (f : FuncId) (a b : List TV) : TV.rd  (TV.func f a b) = TV.func f a b := rfl
theorem zbo0   : TV.rd  TV.nilI = TV.nilI  := rfl
theorem zbye  (cs : List TV) : TV.rd  (TV.agg cs) = TV.agg cs := rfl
theorem zbx5  (cs : List TV) : TV.rd  (TV.tup cs) = TV.tup cs := rfl
theorem zchz   : TV.list  TV.slz = some [] := rfl
theorem zbqx  (l : List TV) : TV.list  (TV.sl l) = some l := rfl
theorem zchy  (k : Nat) (l : List TV) : TV.list  (TV.sla k l) = some l := rfl
theorem zcmb   : TV.pureS  TV.undef = false := rfl
theorem zc1n  (b : Bool) : TV.pureS  (TV.bool b) = true := rfl
theorem zcyw  (k : IntKind) (n : Int) : TV.pureS  (TV.int k n) = true := rfl
theorem zcy3  (s : ByteArray) : TV.pureS  (TV.str s) = true := rfl
theorem zc1r   : TV.pureS  TV.nilP = true := rfl
theorem zcyx  (id off : Nat) : TV.pureS  (TV.ptr id off) = false := rfl
theorem zc1s  (cs : List TV) (off : Nat) : TV.pureS  (TV.rptr cs off) = false := rfl
theorem zcy2   : TV.pureS  TV.slz = false := rfl
theorem zci1  (l : List TV) : TV.pureS  (TV.sl l) = true := rfl
theorem zcyy  (k : Nat) (l : List TV) : TV.pureS  (TV.sla k l) = false := rfl
theorem zcyz  (k : Nat) (t : TypeId) : TV.pureS  (TV.slb k t) = false := rfl
theorem zcy1  (t : TypeId) (l : List TV) : TV.pureS  (TV.slo t l) = false := rfl
theorem zcy0  (id off n sz : Nat) : TV.pureS  (TV.slm id off n sz) = false := rfl
theorem zc1q   : TV.pureS  TV.nilM = true := rfl
theorem zc1o   : TV.pureS  TV.nilF = true := rfl
theorem zc1p   : TV.pureS  TV.nilI = true := rfl
theorem zcyv  (cs : List TV) : TV.pureS  (TV.agg cs) = false := rfl
theorem zcy4  (cs : List TV) : TV.pureS  (TV.tup cs) = false := rfl
theorem zcma (f : FuncId) : TV.pureS (.func f [] []) = true := rfl
theorem zc1t   : TV.pure  TV.undef = false := rfl
theorem zcy5  (b : Bool) : TV.pure  (TV.bool b) = true := rfl
theorem zci3  (k : IntKind) (n : Int) : TV.pure  (TV.int k n) = true := rfl
theorem zcja  (s : ByteArray) : TV.pure  (TV.str s) = true := rfl
theorem zcy9   : TV.pure  TV.nilP = true := rfl
theorem zci4  (id off : Nat) : TV.pure  (TV.ptr id off) = false := rfl
theorem zcza  (cs : List TV) (off : Nat) : TV.pure  (TV.rptr cs off) = false := rfl
theorem zci9   : TV.pure  TV.slz = false := rfl
theorem zbpi  (l : List TV) : TV.pure  (TV.sl l) = true := rfl
theorem zci5  (k : Nat) (l : List TV) : TV.pure  (TV.sla k l) = false := rfl
theorem zci6  (k : Nat) (t : TypeId) : TV.pure  (TV.slb k t) = false := rfl
theorem zci8  (t : TypeId) (l : List TV) : TV.pure  (TV.slo t l) = false := rfl
theorem zci7  (id off n sz : Nat) : TV.pure  (TV.slm id off n sz) = false := rfl
theorem zcy8   : TV.pure  TV.nilM = true := rfl
theorem zcy6   : TV.pure  TV.nilF = true := rfl
theorem zcy7   : TV.pure  TV.nilI = true := rfl
theorem zci2  (cs : List TV) : TV.pure  (TV.agg cs) = cs.all TV.pureS := rfl
theorem zcjb  (cs : List TV) : TV.pure  (TV.tup cs) = false := rfl
theorem zcms (n : Nat)  : TV.under n TV.undef = true := by simp [TV.under]
theorem zch4 (n m : Nat)  : TV.lt n m TV.undef = true := by simp [TV.lt]
theorem zc2l (n : Nat) (b : Bool) : TV.under n (TV.bool b) = true := by simp [TV.under]
theorem zbqo (n m : Nat) (b : Bool) : TV.lt n m (TV.bool b) = true := by simp [TV.lt]
theorem zcz3 (n : Nat) (k : IntKind) (q : Int) : TV.under n (TV.int k q) = true := by simp [TV.under]
theorem zbyx (n m : Nat) (k : IntKind) (q : Int) : TV.lt n m (TV.int k q) = true := by simp [TV.lt]
theorem zc0g (n : Nat) (s : ByteArray) : TV.under n (TV.str s) = true := by simp [TV.under]
theorem zbyq (n m : Nat) (s : ByteArray) : TV.lt n m (TV.str s) = true := by simp [TV.lt]
theorem zc2a (n : Nat)  : TV.under n TV.nilP = true := by simp [TV.under]
theorem zbqh (n m : Nat)  : TV.lt n m TV.nilP = true := by simp [TV.lt]
theorem zcz4 (n : Nat) (id off : Nat) : TV.under n (TV.ptr id off) = decide (id < n) := by simp [TV.under]
theorem zbyw (n m : Nat) (id off : Nat) : TV.lt n m (TV.ptr id off) = decide (id < n) := by simp [TV.lt]
theorem zc2b (n : Nat) (cs : List TV) (off : Nat) : TV.under n (TV.rptr cs off) = true := by simp [TV.under]
theorem zbqg (n m : Nat) (cs : List TV) (off : Nat) : TV.lt n m (TV.rptr cs off) = true := by simp [TV.lt]
theorem zcz9 (n : Nat)  : TV.under n TV.slz = true := by simp [TV.under]
theorem zbyr (n m : Nat)  : TV.lt n m TV.slz = true := by simp [TV.lt]
theorem zckn (n : Nat) (l : List TV) : TV.under n (TV.sl l) = true := by simp [TV.under]
theorem zb6k (n m : Nat) (l : List TV) : TV.lt n m (TV.sl l) = true := by simp [TV.lt]
theorem zcz5 (n : Nat) (k : Nat) (l : List TV) : TV.under n (TV.sla k l) = false := by simp [TV.under]
theorem zbyv (n m : Nat) (k : Nat) (l : List TV) : TV.lt n m (TV.sla k l) = decide (k < m) := by simp [TV.lt]
theorem zcz6 (n : Nat) (k : Nat) (t : TypeId) : TV.under n (TV.slb k t) = false := by simp [TV.under]
theorem zbyu (n m : Nat) (k : Nat) (t : TypeId) : TV.lt n m (TV.slb k t) = decide (k < m) := by simp [TV.lt]
theorem zcz8 (n : Nat) (t : TypeId) (l : List TV) : TV.under n (TV.slo t l) = true := by simp [TV.under]
theorem zbys (n m : Nat) (t : TypeId) (l : List TV) : TV.lt n m (TV.slo t l) = true := by simp [TV.lt]
theorem zcz7 (n : Nat) (id off q sz : Nat) : TV.under n (TV.slm id off q sz) = decide (id < n) := by simp [TV.under]
theorem zbyt (n m : Nat) (id off q sz : Nat) : TV.lt n m (TV.slm id off q sz) = decide (id < n) := by simp [TV.lt]
theorem zc19 (n : Nat)  : TV.under n TV.nilM = true := by simp [TV.under]
theorem zbqi (n m : Nat)  : TV.lt n m TV.nilM = true := by simp [TV.lt]
theorem zc2n (n : Nat)  : TV.under n TV.nilF = true := by simp [TV.under]
theorem zbqk (n m : Nat)  : TV.lt n m TV.nilF = true := by simp [TV.lt]
theorem zc2m (n : Nat) (f : FuncId) (a b : List TV) : TV.under n (TV.func f a b) = (jw n a && jw n b) := by simp [TV.under]
theorem zbqn (n m : Nat) (f : FuncId) (a b : List TV) : TV.lt n m (TV.func f a b) = (ltL n m a && ltL n m b) := by simp [TV.lt]
theorem zc18 (n : Nat)  : TV.under n TV.nilI = true := by simp [TV.under]
theorem zbqj (n m : Nat)  : TV.lt n m TV.nilI = true := by simp [TV.lt]
theorem zcz2 (n : Nat) (cs : List TV) : TV.under n (TV.agg cs) = jw n cs := by simp [TV.under]
theorem zbyy (n m : Nat) (cs : List TV) : TV.lt n m (TV.agg cs) = ltL n m cs := by simp [TV.lt]
theorem zc0h (n : Nat) (cs : List TV) : TV.under n (TV.tup cs) = jw n cs := by simp [TV.under]
theorem zbyp (n m : Nat) (cs : List TV) : TV.lt n m (TV.tup cs) = ltL n m cs := by simp [TV.lt]
theorem zc2k (n : Nat) : jw n [] = true := by simp [jw]
theorem zcmr (n : Nat) (v : TV) (l : List TV) : jw n (v :: l) = (v.under n && jw n l) := by simp [jw]
theorem zbqp (n m : Nat) : ltL n m [] = true := by simp [ltL]
theorem zch3 (n m : Nat) (v : TV) (l : List TV) : ltL n m (v :: l) = (v.lt n m && ltL n m l) := by simp [ltL]
theorem pj {Γ : FuncId → Option TG} {lv : List Nat} {a : TC} {Q : TEx → av} {fr : TF} {tk : TK} {τ : TH} (h : ∀ LQ : TEx → av,(∀ fr' tk' τ',LQ .normal fr' tk' τ' = zbza lv tk τ fr' tk' τ' (tW Γ (.loop lv a) Q)) → (LQ .ret = Q .ret) → (∀ id,LQ (.exit id) = Q (.exit id)) → tW Γ a LQ (sel lv fr) tk τ) : tW Γ (.loop lv a) Q fr tk τ := by
 rw [zb0x]
 exact h _ (fun fr' tk' τ' => zca0 Γ fr' tk tk' τ τ' a lv Q) rfl fun _ => rfl
def zbk9 : List (Nat × TG) → FuncId → Option TG
 | [],_ => none
 | (k,g) :: r,f => if f = k then some g else zbk9 r f
def zb34 (P : Program) (l : List (Nat × TG)) : Prop := ∀ p ∈ l,match p.2 with
 | .code fn => ∃ H,u4 P H p.1 = some (fn.n,fn.c.erase,fn.rs)
 | .prim g => ∀ args τ r τ',g args τ = some (r,τ') → zbuc P p.1 args τ r τ'
theorem zb1y {P : Program} : zb34 P [] := fun p hp => by simp at hp
theorem bk {P : Program} {H : List (Nat × DH)} {f n : Nat} {c : TC} {rs : List R} {fz : Bool} (h : u4 P H f = some (n,c.erase,rs)) {l : List (Nat × TG)} (k : zb34 P l) : zb34 P ((f,.code ⟨n,c,rs,fz⟩) :: l) := fun p hp => by
 rcases List.mem_cons.1 hp with rfl | hp
 · exact ⟨H,h⟩
 · exact k p hp
theorem zb4b {P : Program} {f : Nat} {g : List TV → TH → Option (TV × TH)} (h : ∀ args τ r τ',g args τ = some (r,τ') → zbuc P f args τ r τ') {l : List (Nat × TG)} (k : zb34 P l) : zb34 P ((f,.prim g) :: l) := fun p hp => by
 rcases List.mem_cons.1 hp with rfl | hp
 · exact h
 · exact k p hp
theorem zcyr : ∀ {l : List (Nat × TG)} {f : Nat} {g : TG},zbk9 l f = some g → (f,g) ∈ l
 | [],_,_,h => by cases h
 | (k,g) :: r,f,g',h => by
  simp only [zbk9] at h
  split at h
  · rename_i e; injection h with h; subst e h; simp
  · exact List.mem_cons_of_mem _ (zcyr h)
theorem zbvq {P : Program} {l : List (Nat × TG)} (h : zb34 P l) : GOK P (zbk9 l) := fun f => by
 cases hq : zbk9 l f with
 | none => trivial
 | some g =>
  have := h _ (zcyr hq)
  cases g with
  | code fn => exact this
  | prim g => exact this
section
variable (τ : TH) (b c : Ob) (id k n : Nat)
def zb2f (o : Option Ob) (off : Nat) : Option TV := match o with | some b => (b.cs[off]?).map TV.rd | none => none
def zce3 (o : Option Ob) (off n : Nat) : Option (List TV) := match o with | some b => if off + n ≤ b.cs.length then some (((b.cs.drop off).take n).map TV.rd) else none | none => none
theorem zckv (off : Nat) : zbuh τ id off = zb2f (τ.at id) off := by unfold zbuh zb2f; cases τ.at id <;> rfl
theorem zbmu (off : Nat) : zbjj τ id off n = zce3 (τ.at id) off n := by unfold zbjj zce3; cases τ.at id <;> rfl
theorem zc0u (t : TypeId) (cs : List TV) (off : Nat) : zb2f (some ⟨t,cs⟩) off = (cs[off]?).map TV.rd := rfl
theorem zczg (t : TypeId) (cs : List TV) (off : Nat) : zce3 (some ⟨t,cs⟩) off n = if off + n ≤ cs.length then some (((cs.drop off).take n).map TV.rd) else none := rfl
theorem zck9 : (τ.push b).at τ.next = some b := zb4q
theorem zc0q (h : id = τ.next) : (τ.push b).at id = some b := by subst h; exact zb4q
theorem zcla (h : id < τ.next) : (τ.push b).at id = τ.at id := zb3b h
theorem ap : (τ.push b).next = τ.next + 1 := g9
theorem ag : (τ.put id b).next = τ.next := bo
theorem zbqb : (τ.locked n).next = τ.next := rfl
theorem zbtx : (τ.locked n).at id = τ.at id := rfl
theorem bb : (τ.push b).lock = τ.lock := rfl
theorem ak : (τ.put id b).lock = τ.lock := rfl
theorem zbqu : (τ.cut n).lock = τ.lock := rfl
theorem zbqt : (τ.locked n).lock = n := rfl
theorem zb68 (h : id < τ.next) : (τ.put id b).at id = some b := zb3h h
theorem zcg1 (h : (k = id) = False) : (τ.put id b).at k = τ.at k := zb3a (by simpa using h)
theorem zbjv : (τ.put id b).put id c = τ.put id c := by simp [TH.put]
theorem zcyt (h : id = τ.next) : (τ.push b).put id c = τ.push c := by subst h; simp [TH.put,TH.push,TH.next,List.set_append_right]
theorem zcyu (h : id < τ.next) : (τ.push b).put id c = (τ.put id c).push b := by simp only [TH.put,TH.push,TH.next] at *; rw [List.set_append_left _ _ h]
theorem zcg5 (h : n ≤ τ.next) : (τ.push b).cut n = τ.cut n := by simp only [TH.cut,TH.push,TH.next] at *; rw [List.take_append_of_le_length h]
theorem kf (h : τ.next ≤ n) : τ.cut n = τ := zb9x h
theorem zc04 : (τ.locked k).cut n = (τ.cut n).locked k := rfl
theorem zcmp : (τ.locked k).push b = (τ.push b).locked k := rfl
theorem zc1u : (τ.locked k).put id b = (τ.put id b).locked k := rfl
theorem zcod : (τ.locked k).locked n = τ.locked n := rfl
theorem zclu : τ.locked τ.lock = τ := rfl
end
section
variable (k : IntKind) (x y : Int) (s u : ByteArray)
theorem zbxq : a6 .add (.int k x) (.int k y) = some (.int k (k.wrap (x + y))) := by simp [a6,a8,zbfy,ofS]
theorem zbxc : a6 .sub (.int k x) (.int k y) = some (.int k (k.wrap (x - y))) := by simp [a6,a8,zbfy,ofS]
theorem zbxi : a6 .mul (.int k x) (.int k y) = some (.int k (k.wrap (x * y))) := by simp [a6,a8,zbfy,ofS]
theorem zbxp : a6 .and (.int k x) (.int k y) = some (.int k (k.wrap (BitVec.ofInt k.bits x &&& BitVec.ofInt k.bits y).toNat)) := by simp [a6,a8,zbfy,ofS]
theorem zb5v : a6 .or (.int k x) (.int k y) = some (.int k (k.wrap (BitVec.ofInt k.bits x ||| BitVec.ofInt k.bits y).toNat)) := by simp [a6,a8,zbfy,ofS]
theorem zbxb : a6 .xor (.int k x) (.int k y) = some (.int k (k.wrap (BitVec.ofInt k.bits x ^^^ BitVec.ofInt k.bits y).toNat)) := by simp [a6,a8,zbfy,ofS]
theorem zbxj : a6 .lss (.int k x) (.int k y) = some (.bool (decide (x < y))) := by simp [a6,a8,zbfy,ofS]
theorem zbxk : a6 .leq (.int k x) (.int k y) = some (.bool (decide (x ≤ y))) := by simp [a6,a8,zbfy,ofS]
theorem zbxl : a6 .gtr (.int k x) (.int k y) = some (.bool (decide (y < x))) := by simp [a6,a8,zbfy,ofS]
theorem zbxm : a6 .geq (.int k x) (.int k y) = some (.bool (decide (y ≤ x))) := by simp [a6,a8,zbfy,ofS]
theorem zbxn : a6 .eql (.int k x) (.int k y) = some (.bool (decide (x = y))) := by simp [a6,a8,zbfy,ofS]; rfl
theorem zbxh : a6 .neq (.int k x) (.int k y) = some (.bool (decide (¬ x = y))) := by simp [a6,a8,zbfy,ofS]; rfl
theorem zbxg : a6 .quo (.int k x) (.int k y) = if y = 0 then none else some (.int k (k.wrap (x.tdiv y))) := by simp [a6,a8,zbfy,ofS]; split <;> simp [ofS]
theorem zbxf : a6 .rem (.int k x) (.int k y) = if y = 0 then none else some (.int k (x.tmod y)) := by simp [a6,a8,zbfy,ofS]; split <;> simp [ofS]
theorem zbxe (j : IntKind) : a6 .shl (.int k x) (.int j y) = if y < 0 then none else some (.int k (k.wrap (x * 2 ^ (Nat.min y.toNat k.bits)))) := by simp [a6,a8,zbz4,ofS]; split <;> simp [ofS]
theorem zbxd (j : IntKind) : a6 .shr (.int k x) (.int j y) = if y < 0 then none else some (.int k (x.fdiv (2 ^ (Nat.min y.toNat k.bits)))) := by simp [a6,a8,zbz4,ofS]; split <;> simp [ofS]
theorem zbxo : a6 .add (.str s) (.str u) = if 9223372036854775807 < ((s.size + u.size : Nat) : Int) then none else some (.str (s ++ u)) := by
 have e : IntKind.i64.max = 9223372036854775807 := by decide
 simp only [a6,zbn7,e]
 split
 · rfl
 · rfl
theorem zcml {s u : ByteArray} : s.toList = u.toList ↔ s = u := by
 constructor
 · intro h
   rw [ByteArray.toList_eq,ByteArray.toList_eq] at h
   cases s; cases u; simp_all
 · rintro rfl; rfl
theorem zbnf : a6 .eql (.str s) (.str u) = some (.bool (decide (s = u))) := by simp only [a6,zbn7,Option.map_some,ofS]; congr 2; by_cases h : s = u <;> simp [h,zcml]
theorem zbne : a6 .neq (.str s) (.str u) = some (.bool (decide (¬ s = u))) := by simp only [a6,zbn7,Option.map_some,ofS]; congr 2; by_cases h : s = u <;> simp [h,zcml]
theorem zbw2 (b : Bool) : tun .not (.bool b) = some (.bool !b) := rfl
def zce6 (k : IntKind) (x : Int) : Int := k.wrap (BitVec.ofInt k.bits (if k.signed then -1 else k.max) ^^^ BitVec.ofInt k.bits x).toNat
theorem zbw1 : tun .xor (.int k x) = some (.int k (zce6 k x)) := rfl
theorem zbw3 : tun .neg (.int k x) = some (.int k (k.wrap (0 - x))) := rfl
end
theorem zcls (c : Prop) [Decidable c] (v : TV) (d : Option Nat) (K : av) (fr : TF) (tk : TK) (τ : TH) : pK (if c then none else some v) d K fr tk τ = (¬ c ∧ K (gg fr d v) tk τ) := by unfold pK; by_cases h : c <;> simp [h]
theorem zbql {g n k : Nat} (h : g < n) : (g < n + k) = True := by simp; omega
theorem zbq5 {g n k : Nat} (h : g ≤ n) : (g ≤ n + k) = True := by simp; omega
theorem zbqf (n k : Nat) : (n < n + k) = (0 < k) := by simp
theorem zbqm (n j k : Nat) : (n + j < n + k) = (j < k) := by simp
theorem zbq4 (n k : Nat) : (n ≤ n + k) = True := by simp
theorem zbq6 (n j k : Nat) : (n + j ≤ n + k) = (j ≤ k) := by simp
theorem zbrz (n j k : Nat) : (n + j = n + k) = (j = k) := by simp
theorem zc2z (n k : Nat) : (n = n + k) = (k = 0) := by simp
theorem zcmw (n k : Nat) : (n + k = n) = (k = 0) := by simp
theorem zcm0 (n : Nat) : (n < n) = False := by simp
theorem zbs0 (n j k : Nat) : n + j + k = n + (j + k) := Nat.add_assoc n j k
theorem zcjx (i o j p : Nat) : TV.same (.ptr i o) (.ptr j p) = (i == j && o == p) := rfl
theorem zcjw (k j : IntKind) (n m : Int) : TV.same (.int k n) (.int j m) = (decide (k = j) && decide (n = m)) := rfl
theorem zc0d (a b : Bool) : TV.same (.bool a) (.bool b) = (a == b) := rfl
theorem zcjy (a b : ByteArray) : TV.same (.str a) (.str b) = decide (a = b) := rfl
theorem zc0e (f g : FuncId) (a b c d : List TV) : TV.same (.func f a b) (.func g c d) = (decide (f = g) && (zbt0 a c && zbt0 b d)) := rfl
theorem zc0c : zbt0 [] [] = true := rfl
theorem zc1x (v w : TV) (r s : List TV) : zbt0 (v :: r) (w :: s) = (v.same w && zbt0 r s) := rfl
theorem zczf (fr : TF) (τ : TH) (d : Nat) (i : I) (g : Option (Nat × Bool)) : zb92 ⟨some d,i,g⟩ fr τ = zb97 (zb39 i fr τ) (lkp fr d) := rfl
theorem zczc (fr : TF) (τ : TH) (x : Operand) : zb39 (.load1 x) fr τ = rdO (tO fr x) τ := rfl
theorem zbo5 (τ : TH) (id off : Nat) : rdO (.ptr id off) τ = rdB (τ.at id) off := rfl
theorem zckd (t : TypeId) (cs : List TV) (off : Nat) : rdB (some ⟨t,cs⟩) off = (cs[off]?).map TV.rd := rfl
theorem zc0b (v w : TV) : zb97 (some v) w = v.same w := rfl
theorem zcg7 : decide True = true := rfl
theorem zcg6 : decide False = false := rfl
theorem TT0 : type_of% (ai (ai (ai (ai @zbzf @zbzg) (ai @zb7f @zb7g)) (ai (ai @zcgt @zckq) (ai @zczt @zbni))) (ai (ai (ai @zckt @zbnj) (ai @zckr @zcks)) (ai (ai @zbs3 @zb7e) (ai @zbzh @zbs5)))) := (ai (ai (ai (ai @zbzf @zbzg) (ai @zb7f @zb7g)) (ai (ai @zcgt @zckq) (ai @zczt @zbni))) (ai (ai (ai @zckt @zbnj) (ai @zckr @zcks)) (ai (ai @zbs3 @zb7e) (ai @zbzh @zbs5))))
theorem TT1 : type_of% (ai (ai (ai (ai @zbs4 @zbsd) (ai @zbmz @zbmy)) (ai (ai @zbm0 @zcf6) (ai @zcf5 @zclb))) (ai (ai (ai @zcf7 @zca0) (ai @zbqq @zbqr)) (ai (ai @zbsl @zbx2) (ai @zbx3 @zbok)))) := (ai (ai (ai (ai @zbs4 @zbsd) (ai @zbmz @zbmy)) (ai (ai @zbm0 @zcf6) (ai @zcf5 @zclb))) (ai (ai (ai @zcf7 @zca0) (ai @zbqq @zbqr)) (ai (ai @zbsl @zbx2) (ai @zbx3 @zbok))))
theorem TT2 : type_of% (ai (ai (ai (ai @zbol @zchf) (ai @zcju @zbw5)) (ai (ai @zbw6 @zbw4) (ai @zcnt @zcqp))) (ai (ai (ai @zc03 @zcmn) (ai @zc2h @zc2i)) (ai (ai @zbo7 @zbo6) (ai @zbxu @zbno)))) := (ai (ai (ai (ai @zbol @zchf) (ai @zcju @zbw5)) (ai (ai @zbw6 @zbw4) (ai @zcnt @zcqp))) (ai (ai (ai @zc03 @zcmn) (ai @zc2h @zc2i)) (ai (ai @zbo7 @zbo6) (ai @zbxu @zbno))))
theorem TT3 : type_of% (ai (ai (ai (ai @zbnn @zbnq) (ai @zcj4 @zcj5)) (ai (ai @zb6t @zb6w) (ai @zb6u @zb6v))) (ai (ai (ai @zby3 @zbzv) (ai @zbtl @zckg)) (ai (ai @zczw @zc0j) (ai @zbm7 @zckl)))) := (ai (ai (ai (ai @zbnn @zbnq) (ai @zcj4 @zcj5)) (ai (ai @zb6t @zb6w) (ai @zb6u @zb6v))) (ai (ai (ai @zby3 @zbzv) (ai @zbtl @zckg)) (ai (ai @zczw @zc0j) (ai @zbm7 @zckl))))
theorem TT4 : type_of% (ai (ai (ai (ai @zczx @zbm6) (ai @zckh @zbm2)) (ai (ai @zckk @zbw9) (ai @zbm8 @zbm5))) (ai (ai (ai @zcki @zbm3) (ai @zckj @zbm4)) (ai (ai @zbtk @zbtj) (ai @zcfx @zbr3)))) := (ai (ai (ai (ai @zczx @zbm6) (ai @zckh @zbm2)) (ai (ai @zckk @zbw9) (ai @zbm8 @zbm5))) (ai (ai (ai @zcki @zbm3) (ai @zckj @zbm4)) (ai (ai @zbtk @zbtj) (ai @zcfx @zbr3))))
theorem TT5 : type_of% (ai (ai (ai (ai @zbpo @zbyh) (ai @zcjk @zca3)) (ai (ai @zb7j @zbzp) (ai @zbzq @zcia))) (ai (ai (ai @zbzo @zbpm) (ai @zbtg @zbq8)) (ai (ai @zcil @zbte) (ai @zbq7 @zcim)))) := (ai (ai (ai (ai @zbpo @zbyh) (ai @zcjk @zca3)) (ai (ai @zb7j @zbzp) (ai @zbzq @zcia))) (ai (ai (ai @zbzo @zbpm) (ai @zbtg @zbq8)) (ai (ai @zcil @zbte) (ai @zbq7 @zcim))))
theorem TT6 : type_of% (ai (ai (ai (ai @zcf1 @zch9) (ai @zcyq @zcyp)) (ai (ai @zb7p @zb7n) (ai @zby7 @zbth))) (ai (ai (ai @zcmj @zc2e) (ai @zcmk @zc2g)) (ai (ai @zczy @zc2f) (ai @zcmi @zcmh)))) := (ai (ai (ai (ai @zcf1 @zch9) (ai @zcyq @zcyp)) (ai (ai @zb7p @zb7n) (ai @zby7 @zbth))) (ai (ai (ai @zcmj @zc2e) (ai @zcmk @zc2g)) (ai (ai @zczy @zc2f) (ai @zcmi @zcmh))))
theorem TT7 : type_of% (ai (ai (ai (ai @zcmg @zc32) (ai @zbzu @zbr6)) (ai (ai @zbti @zcg4) (ai @zc20 @zbq2))) (ai (ai (ai @zciq @zcjl) (ai @zczd @zbot)) (ai (ai @zcze @zcjm) (ai @zbou @zbon)))) := (ai (ai (ai (ai @zcmg @zc32) (ai @zbzu @zbr6)) (ai (ai @zbti @zcg4) (ai @zc20 @zbq2))) (ai (ai (ai @zciq @zcjl) (ai @zczd @zbot)) (ai (ai @zcze @zcjm) (ai @zbou @zbon))))
theorem TT8 : type_of% (ai (ai (ai (ai @zcjr @zcjs) (ai @zboo @zbx4)) (ai (ai @zbos @zbor) (ai @zbop @zboq))) (ai (ai (ai @zcjq @zcjo) (ai @zcjn @zcjp)) (ai (ai @zbov @zbom) (ai @zbry @zchd)))) := (ai (ai (ai (ai @zcjr @zcjs) (ai @zboo @zbx4)) (ai (ai @zbos @zbor) (ai @zbop @zboq))) (ai (ai (ai @zcjq @zcjo) (ai @zcjn @zcjp)) (ai (ai @zbov @zbom) (ai @zbry @zchd))))
theorem TT9 : type_of% (ai (ai (ai (ai @zcfy @zbrx) (ai @zcfz @zbrw)) (ai (ai @zc09 @zbrh) (ai @zcii @zck5))) (ai (ai (ai @zby0 @zbrg) (ai @zbrf @zc1a)) (ai (ai @zb6r @zc1b) (ai @zb56 @zclp)))) := (ai (ai (ai (ai @zcfy @zbrx) (ai @zcfz @zbrw)) (ai (ai @zc09 @zbrh) (ai @zcii @zck5))) (ai (ai (ai @zby0 @zbrg) (ai @zbrf @zc1a)) (ai (ai @zb6r @zc1b) (ai @zb56 @zclp))))
theorem zc3z : type_of% (ai (ai (ai (ai @zbxy @zbnz) (ai @zbny @zb5w)) (ai (ai @zb5y @zb5x) (ai @zb5z @zbqd))) (ai (ai (ai @zbzs @zbyz) (ai @zbzt @zcio)) (ai (ai @zbq3 @zcin) (ai @zcip @zb7k)))) := (ai (ai (ai (ai @zbxy @zbnz) (ai @zbny @zb5w)) (ai (ai @zb5y @zb5x) (ai @zb5z @zbqd))) (ai (ai (ai @zbzs @zbyz) (ai @zbzt @zcio)) (ai (ai @zbq3 @zcin) (ai @zcip @zb7k))))
theorem zc3y : type_of% (ai (ai (ai (ai @zbym @zb7l) (ai @zbyn @zcf0)) (ai (ai @zck4 @zb6z) (ai @zbtm @zczv))) (ai (ai (ai @zc10 @zces) (ai @zcbb @zbtc)) (ai (ai @zckx @zc0k) (ai @zcj1 @zcj0)))) := (ai (ai (ai (ai @zbym @zb7l) (ai @zbyn @zcf0)) (ai (ai @zck4 @zb6z) (ai @zbtm @zczv))) (ai (ai (ai @zc10 @zces) (ai @zcbb @zbtc)) (ai (ai @zckx @zc0k) (ai @zcj1 @zcj0))))
theorem zc3x : type_of% (ai (ai (ai (ai @zc08 @zb6s) (ai @zc21 @zby1)) (ai (ai @zb7m @zb61) (ai @zb7o @zbtd))) (ai (ai (ai @zbnv @zcjz) (ai @zbtf @zbmx)) (ai (ai @zckm @zckz) (ai @zcky @zcf2)))) := (ai (ai (ai (ai @zc08 @zb6s) (ai @zc21 @zby1)) (ai (ai @zb7m @zb61) (ai @zb7o @zbtd))) (ai (ai (ai @zbnv @zcjz) (ai @zbtf @zbmx)) (ai (ai @zckm @zckz) (ai @zcky @zcf2))))
theorem zc3w : type_of% (ai (ai (ai (ai @zbn9 @zcjv) (ai @zck3 @zb66)) (ai (ai @zb65 @zb64) (ai @zc1z @zcme))) (ai (ai (ai @zck6 @zcln) (ai @zclo @zb6j)) (ai (ai @zb6i @zcfw) (ai @zck0 @zbsv)))) := (ai (ai (ai (ai @zbn9 @zcjv) (ai @zck3 @zb66)) (ai (ai @zb65 @zb64) (ai @zc1z @zcme))) (ai (ai (ai @zck6 @zcln) (ai @zclo @zb6j)) (ai (ai @zb6i @zcfw) (ai @zck0 @zbsv))))
theorem zc3v : type_of% (ai (ai (ai (ai @zbsw @zcgu) (ai @zck1 @zbsm)) (ai (ai @zcg0 @zbss) (ai @zbsu @zcgw))) (ai (ai (ai @zbst @zcgv) (ai @zck2 @zb69)) (ai (ai @zc1c @zc0m) (ai @zc0n @zb51)))) := (ai (ai (ai (ai @zbsw @zcgu) (ai @zck1 @zbsm)) (ai (ai @zcg0 @zbss) (ai @zbsu @zcgw))) (ai (ai (ai @zbst @zcgv) (ai @zck2 @zb69)) (ai (ai @zc1c @zc0m) (ai @zc0n @zb51))))
theorem zc3u : type_of% (ai (ai (ai (ai @zb50 @zb7h) (ai @zbzl @zbtb)) (ai (ai @zbzk @zbs7) (ai @zbs6 @zbs8))) (ai (ai (ai @zbta @zbs9) (ai @zbzj @zbzm)) (ai (ai @zbp7 @zcid) (ai @zbp6 @zcih)))) := (ai (ai (ai (ai @zb50 @zb7h) (ai @zbzl @zbtb)) (ai (ai @zbzk @zbs7) (ai @zbs6 @zbs8))) (ai (ai (ai @zbta @zbs9) (ai @zbzj @zbzm)) (ai (ai @zbp7 @zcid) (ai @zbp6 @zcih))))
theorem zc3t : type_of% (ai (ai (ai (ai @zcjc @zcig) (ai @zcie @zcif)) (ai (ai @zbqw @zch1) (ai @zcz0 @zczz))) (ai (ai (ai @zbxz @zcgz) (ai @zck8 @zc2u)) (ai (ai @zc0v @zcxm) (ai @zcxt @zc00)))) := (ai (ai (ai (ai @zcjc @zcig) (ai @zcie @zcif)) (ai (ai @zbqw @zch1) (ai @zcz0 @zczz))) (ai (ai (ai @zbxz @zcgz) (ai @zck8 @zc2u)) (ai (ai @zc0v @zcxm) (ai @zcxt @zc00))))
theorem zc3s : type_of% (ai (ai (ai (ai @zcxn @zc01) (ai @zcxs @zcg3)) (ai (ai @zcxo @zcxp) (ai @zcxr @zcxq))) (ai (ai (ai @zc0z @zc0x) (ai @zc0w @zc0y)) (ai (ai @zcxl @zcxu) (ai @zczh @zcjd)))) := (ai (ai (ai (ai @zcxn @zc01) (ai @zcxs @zcg3)) (ai (ai @zcxo @zcxp) (ai @zcxr @zcxq))) (ai (ai (ai @zc0z @zc0x) (ai @zc0w @zc0y)) (ai (ai @zcxl @zcxu) (ai @zczh @zcjd))))
theorem zc3r : type_of% (ai (ai (ai (ai @zbpy @zbpr) (ai @zcji @zbpx)) (ai (ai @zcjj @zbps) (ai @zbyi @zbpw))) (ai (ai (ai @zbpv @zbpt) (ai @zbpu @zcjh)) (ai (ai @zcjf @zcje) (ai @zcjg @zbpz)))) := (ai (ai (ai (ai @zbpy @zbpr) (ai @zcji @zbpx)) (ai (ai @zcjj @zbps) (ai @zbyi @zbpw))) (ai (ai (ai @zbpv @zbpt) (ai @zbpu @zcjh)) (ai (ai @zcjf @zcje) (ai @zcjg @zbpz))))
theorem zc3q : type_of% (ai (ai (ai (ai @zbpq @zclt) (ai @zc14 @zcyc)) (ai (ai @zcyj @zc1e) (ai @zcyd @zc1f))) (ai (ai (ai @zcyi @zcik) (ai @zcye @zcyf)) (ai (ai @zcyh @zcyg) (ai @zc1d @zc16)))) := (ai (ai (ai (ai @zbpq @zclt) (ai @zc14 @zcyc)) (ai (ai @zcyj @zc1e) (ai @zcyd @zc1f))) (ai (ai (ai @zcyi @zcik) (ai @zcye @zcyf)) (ai (ai @zcyh @zcyg) (ai @zc1d @zc16))))
theorem zc3p : type_of% (ai (ai (ai (ai @zc15 @zc17) (ai @zcyb @zcyk)) (ai (ai @zc0s @zclj) (ai @zcgl @zcgs))) (ai (ai (ai @zcx1 @zcgm) (ai @zcx2 @zcgr)) (ai (ai @zbr8 @zcgn) (ai @zcgo @zcgq)))) := (ai (ai (ai (ai @zc15 @zc17) (ai @zcyb @zcyk)) (ai (ai @zc0s @zclj) (ai @zcgl @zcgs))) (ai (ai (ai @zcx1 @zcgm) (ai @zcx2 @zcgr)) (ai (ai @zbr8 @zcgn) (ai @zcgo @zcgq))))
theorem zc3o : type_of% (ai (ai (ai (ai @zcgp @zcx0) (ai @zcll @zclk)) (ai (ai @zclm @zcgk) (ai @zchm @zc0r))) (ai (ai (ai @zclc @zcgb) (ai @zcgi @zclh)) (ai (ai @zcgc @zcli) (ai @zcgh @zbr9)))) := (ai (ai (ai (ai @zcgp @zcx0) (ai @zcll @zclk)) (ai (ai @zclm @zcgk) (ai @zchm @zc0r))) (ai (ai (ai @zclc @zcgb) (ai @zcgi @zclh)) (ai (ai @zcgc @zcli) (ai @zcgh @zbr9))))
theorem zc3n : type_of% (ai (ai (ai (ai @zcgd @zcge) (ai @zcgg @zcgf)) (ai (ai @zclg @zcle) (ai @zcld @zclf))) (ai (ai (ai @zcga @zcgj) (ai @zc0t @zcx3)) (ai (ai @zcho @zchv) (ai @zcx8 @zchp)))) := (ai (ai (ai (ai @zcgd @zcge) (ai @zcgg @zcgf)) (ai (ai @zclg @zcle) (ai @zcld @zclf))) (ai (ai (ai @zcga @zcgj) (ai @zc0t @zcx3)) (ai (ai @zcho @zchv) (ai @zcx8 @zchp))))
theorem zc3m : type_of% (ai (ai (ai (ai @zcx9 @zchu) (ai @zbr7 @zchq)) (ai (ai @zchr @zcht) (ai @zchs @zcx7))) (ai (ai (ai @zcx5 @zcx4) (ai @zcx6 @zchn)) (ai (ai @zcg2 @zc1m) (ai @zczi @zcis)))) := (ai (ai (ai (ai @zcx9 @zchu) (ai @zbr7 @zchq)) (ai (ai @zchr @zcht) (ai @zchs @zcx7))) (ai (ai (ai @zcx5 @zcx4) (ai @zcx6 @zchn)) (ai (ai @zcg2 @zc1m) (ai @zczi @zcis))))
theorem zc3l : type_of% (ai (ai (ai (ai @zciz @zczo) (ai @zcit @zczp)) (ai (ai @zciy @zbpn) (ai @zciu @zciv))) (ai (ai (ai @zcix @zciw) (ai @zczn @zczl)) (ai (ai @zczk @zczm) (ai @zcir @zci0)))) := (ai (ai (ai (ai @zciz @zczo) (ai @zcit @zczp)) (ai (ai @zciy @zbpn) (ai @zciu @zciv))) (ai (ai (ai @zcix @zciw) (ai @zczn @zczl)) (ai (ai @zczk @zczm) (ai @zcir @zci0))))
theorem zc3k : type_of% (ai (ai (ai (ai @zczb @zcj6) (ai @zbpg @zbo9)) (ai (ai @zckb @zbpf) (ai @zckc @zbpa))) (ai (ai (ai @zbyf @zbpe) (ai @zbpd @zbpb)) (ai (ai @zbpc @zcka) (ai @zcj8 @zcj7)))) := (ai (ai (ai (ai @zczb @zcj6) (ai @zbpg @zbo9)) (ai (ai @zckb @zbpf) (ai @zckc @zbpa))) (ai (ai (ai @zbyf @zbpe) (ai @zbpd @zbpb)) (ai (ai @zbpc @zcka) (ai @zcj8 @zcj7))))
theorem zc3j : type_of% (ai (ai (ai (ai @zcj9 @zbph) (ai @zbo8 @zcke)) (ai (ai @zbo4 @zbyd) (ai @zbx6 @zboy))) (ai (ai (ai @zbyc @zbox) (ai @zbx7 @zb6a)) (ai (ai @zbyb @zbya) (ai @zbx8 @zbx9)))) := (ai (ai (ai (ai @zcj9 @zbph) (ai @zbo8 @zcke)) (ai (ai @zbo4 @zbyd) (ai @zbx6 @zboy))) (ai (ai (ai @zbyc @zbox) (ai @zbx7 @zb6a)) (ai (ai @zbyb @zbya) (ai @zbx8 @zbx9))))
theorem zc3i : type_of% (ai (ai (ai (ai @zboz @zbo1) (ai @zbo3 @zbo0)) (ai (ai @zbye @zbx5) (ai @zchz @zbqx))) (ai (ai (ai @zchy @zcmb) (ai @zc1n @zcyw)) (ai (ai @zcy3 @zc1r) (ai @zcyx @zc1s)))) := (ai (ai (ai (ai @zboz @zbo1) (ai @zbo3 @zbo0)) (ai (ai @zbye @zbx5) (ai @zchz @zbqx))) (ai (ai (ai @zchy @zcmb) (ai @zc1n @zcyw)) (ai (ai @zcy3 @zc1r) (ai @zcyx @zc1s))))
theorem zc3h : type_of% (ai (ai (ai (ai @zcy2 @zci1) (ai @zcyy @zcyz)) (ai (ai @zcy1 @zcy0) (ai @zc1q @zc1o))) (ai (ai (ai @zc1p @zcyv) (ai @zcy4 @zcma)) (ai (ai @zc1t @zcy5) (ai @zci3 @zcja)))) := (ai (ai (ai (ai @zcy2 @zci1) (ai @zcyy @zcyz)) (ai (ai @zcy1 @zcy0) (ai @zc1q @zc1o))) (ai (ai (ai @zc1p @zcyv) (ai @zcy4 @zcma)) (ai (ai @zc1t @zcy5) (ai @zci3 @zcja))))
theorem zc3g : type_of% (ai (ai (ai (ai @zcy9 @zci4) (ai @zcza @zci9)) (ai (ai @zbpi @zci5) (ai @zci6 @zci8))) (ai (ai (ai @zci7 @zcy8) (ai @zcy6 @zcy7)) (ai (ai @zci2 @zcjb) (ai @zcms @zch4)))) := (ai (ai (ai (ai @zcy9 @zci4) (ai @zcza @zci9)) (ai (ai @zbpi @zci5) (ai @zci6 @zci8))) (ai (ai (ai @zci7 @zcy8) (ai @zcy6 @zcy7)) (ai (ai @zci2 @zcjb) (ai @zcms @zch4))))
theorem zc3f : type_of% (ai (ai (ai (ai @zc2l @zbqo) (ai @zcz3 @zbyx)) (ai (ai @zc0g @zbyq) (ai @zc2a @zbqh))) (ai (ai (ai @zcz4 @zbyw) (ai @zc2b @zbqg)) (ai (ai @zcz9 @zbyr) (ai @zckn @zb6k)))) := (ai (ai (ai (ai @zc2l @zbqo) (ai @zcz3 @zbyx)) (ai (ai @zc0g @zbyq) (ai @zc2a @zbqh))) (ai (ai (ai @zcz4 @zbyw) (ai @zc2b @zbqg)) (ai (ai @zcz9 @zbyr) (ai @zckn @zb6k))))
theorem zc3e : type_of% (ai (ai (ai (ai @zcz5 @zbyv) (ai @zcz6 @zbyu)) (ai (ai @zcz8 @zbys) (ai @zcz7 @zbyt))) (ai (ai (ai @zc19 @zbqi) (ai @zc2n @zbqk)) (ai (ai @zc2m @zbqn) (ai @zc18 @zbqj)))) := (ai (ai (ai (ai @zcz5 @zbyv) (ai @zcz6 @zbyu)) (ai (ai @zcz8 @zbys) (ai @zcz7 @zbyt))) (ai (ai (ai @zc19 @zbqi) (ai @zc2n @zbqk)) (ai (ai @zc2m @zbqn) (ai @zc18 @zbqj))))
theorem zc3d : type_of% (ai (ai (ai (ai @zcz2 @zbyy) (ai @zc0h @zbyp)) (ai (ai @zc2k @zcmr) (ai @zbqp @zch3))) (ai (ai (ai @zckv @zbmu) (ai @zc0u @zczg)) (ai (ai @zck9 @zc0q) (ai @zcla @ap)))) := (ai (ai (ai (ai @zcz2 @zbyy) (ai @zc0h @zbyp)) (ai (ai @zc2k @zcmr) (ai @zbqp @zch3))) (ai (ai (ai @zckv @zbmu) (ai @zc0u @zczg)) (ai (ai @zck9 @zc0q) (ai @zcla @ap))))
theorem zc3c : type_of% (ai (ai (ai (ai @ag @zbqb) (ai @zbtx @bb)) (ai (ai @ak @zbqu) (ai @zbqt @zb68))) (ai (ai (ai @zcg1 @zbjv) (ai @zcyt @zcyu)) (ai (ai @zcg5 @kf) (ai @zc04 @zcmp)))) := (ai (ai (ai (ai @ag @zbqb) (ai @zbtx @bb)) (ai (ai @ak @zbqu) (ai @zbqt @zb68))) (ai (ai (ai @zcg1 @zbjv) (ai @zcyt @zcyu)) (ai (ai @zcg5 @kf) (ai @zc04 @zcmp))))
theorem zc3b : type_of% (ai (ai (ai (ai @zc1u @zcod) (ai @zclu @zbxq)) (ai (ai @zbxc @zbxi) (ai @zbxp @zb5v))) (ai (ai (ai @zbxb @zbxj) (ai @zbxk @zbxl)) (ai (ai @zbxm @zbxn) (ai @zbxh @zbxg)))) := (ai (ai (ai (ai @zc1u @zcod) (ai @zclu @zbxq)) (ai (ai @zbxc @zbxi) (ai @zbxp @zb5v))) (ai (ai (ai @zbxb @zbxj) (ai @zbxk @zbxl)) (ai (ai @zbxm @zbxn) (ai @zbxh @zbxg))))
theorem zc3a : type_of% (ai (ai (ai (ai @zbxf @zbxe) (ai @zbxd @zbxo)) (ai (ai @zbnf @zbne) (ai @zbw2 @zbw1))) (ai (ai (ai @zbw3 @zcls) (ai @zbql @zbq5)) (ai (ai @zbqf @zbqm) (ai @zbq4 @zbq6)))) := (ai (ai (ai (ai @zbxf @zbxe) (ai @zbxd @zbxo)) (ai (ai @zbnf @zbne) (ai @zbw2 @zbw1))) (ai (ai (ai @zbw3 @zcls) (ai @zbql @zbq5)) (ai (ai @zbqf @zbqm) (ai @zbq4 @zbq6))))
theorem zc29 : type_of% (ai (ai (ai (ai @zbrz @zc2z) (ai @zcmw @zcm0)) (ai (ai @zbs0 @zcjx) (ai @zcjw @zc0d))) (ai (ai (ai @zcjy @zc0e) (ai @zc0c @zc1x)) (ai (ai @zczf @zczc) (ai @zbo5 @zckd)))) := (ai (ai (ai (ai @zbrz @zc2z) (ai @zcmw @zcm0)) (ai (ai @zbs0 @zcjx) (ai @zcjw @zc0d))) (ai (ai (ai @zcjy @zc0e) (ai @zc0c @zc1x)) (ai (ai @zczf @zczc) (ai @zbo5 @zckd))))
theorem zc28 : type_of% (ai (ai (ai (ai @zc0b @zcg7) (ai @zcg6 @List.map_cons.{0,0})) (ai (ai @List.map_nil.{0,0} @List.getD_cons_zero.{0}) (ai @List.getD_cons_succ.{0} @List.getElem?_cons_zero.{0}))) (ai (ai (ai @List.getElem?_cons_succ.{0} @List.length_cons.{0}) (ai @List.length_nil.{0} @List.drop_succ_cons.{0})) (ai (ai @List.drop_zero.{0} @List.take_succ_cons.{0}) (ai @List.take_zero.{0} @List.take_nil.{0})))) := (ai (ai (ai (ai @zc0b @zcg7) (ai @zcg6 @List.map_cons.{0,0})) (ai (ai @List.map_nil.{0,0} @List.getD_cons_zero.{0}) (ai @List.getD_cons_succ.{0} @List.getElem?_cons_zero.{0}))) (ai (ai (ai @List.getElem?_cons_succ.{0} @List.length_cons.{0}) (ai @List.length_nil.{0} @List.drop_succ_cons.{0})) (ai (ai @List.drop_zero.{0} @List.take_succ_cons.{0}) (ai @List.take_zero.{0} @List.take_nil.{0}))))
theorem zc27 : type_of% (ai (ai (ai (ai @List.take_length.{0} @List.set_cons_zero.{0}) (ai @List.set_cons_succ.{0} @Option.map_some.{0,0})) (ai (ai @Option.map_none.{0,0} @Option.bind_some.{0,0}) (ai @and_true @true_and))) (ai (ai (ai @Bool.not_true @Bool.not_false) (ai @List.all_cons.{0} @List.all_nil.{0})) (ai (ai @Bool.and_true @Bool.true_and) (ai @Bool.and_self @not_false_eq_true)))) := (ai (ai (ai (ai @List.take_length.{0} @List.set_cons_zero.{0}) (ai @List.set_cons_succ.{0} @Option.map_some.{0,0})) (ai (ai @Option.map_none.{0,0} @Option.bind_some.{0,0}) (ai @and_true @true_and))) (ai (ai (ai @Bool.not_true @Bool.not_false) (ai @List.all_cons.{0} @List.all_nil.{0})) (ai (ai @Bool.and_true @Bool.true_and) (ai @Bool.and_self @not_false_eq_true))))
theorem zc26 : type_of% (ai (ai (ai (ai @Nat.zero_add @Nat.le_refl) (ai @Nat.add_zero @Nat.zero_mul)) (ai (ai @Nat.mul_one @Nat.one_mul) (ai @Int.toNat_zero @Int.toNat_natCast))) (ai (ai (ai @List.nil_append.{0} @List.cons_append.{0}) (ai @List.append_nil.{0} @cond_true.{1})) (ai (ai @cond_false.{1} @if_true.{1}) (ai @if_false.{1} @List.length_map.{0,0})))) := (ai (ai (ai (ai @Nat.zero_add @Nat.le_refl) (ai @Nat.add_zero @Nat.zero_mul)) (ai (ai @Nat.mul_one @Nat.one_mul) (ai @Int.toNat_zero @Int.toNat_natCast))) (ai (ai (ai @List.nil_append.{0} @List.cons_append.{0}) (ai @List.append_nil.{0} @cond_true.{1})) (ai (ai @cond_false.{1} @if_true.{1}) (ai @if_false.{1} @List.length_map.{0,0}))))
theorem zc25 : type_of% (ai (ai (ai @List.length_append.{0} @not_true_eq_false) (ai @decide_eq_true_eq (ai @or_true @true_or))) (ai (ai @or_false (ai @false_or @ne_eq.{1})) (ai @eq_self.{1} (ai @bne_self_eq_false.{0} @beq_self_eq_true.{0})))) := (ai (ai (ai @List.length_append.{0} @not_true_eq_false) (ai @decide_eq_true_eq (ai @or_true @true_or))) (ai (ai @or_false (ai @false_or @ne_eq.{1})) (ai @eq_self.{1} (ai @bne_self_eq_false.{0} @beq_self_eq_true.{0}))))
theorem TT : type_of% (ai (ai (ai (ai (ai @TT0 @TT1) (ai @TT2 (ai @TT3 @TT4))) (ai (ai @TT5 @TT6) (ai @TT7 (ai @TT8 @TT9)))) (ai (ai (ai @zc3z @zc3y) (ai @zc3x (ai @zc3w @zc3v))) (ai (ai @zc3u @zc3t) (ai @zc3s (ai @zc3r @zc3q))))) (ai (ai (ai (ai @zc3p @zc3o) (ai @zc3n (ai @zc3m @zc3l))) (ai (ai @zc3k @zc3j) (ai @zc3i (ai @zc3h @zc3g)))) (ai (ai (ai @zc3f @zc3e) (ai @zc3d (ai @zc3c @zc3b))) (ai (ai @zc3a (ai @zc29 @zc28)) (ai @zc27 (ai @zc26 @zc25)))))) := (ai (ai (ai (ai (ai @TT0 @TT1) (ai @TT2 (ai @TT3 @TT4))) (ai (ai @TT5 @TT6) (ai @TT7 (ai @TT8 @TT9)))) (ai (ai (ai @zc3z @zc3y) (ai @zc3x (ai @zc3w @zc3v))) (ai (ai @zc3u @zc3t) (ai @zc3s (ai @zc3r @zc3q))))) (ai (ai (ai (ai @zc3p @zc3o) (ai @zc3n (ai @zc3m @zc3l))) (ai (ai @zc3k @zc3j) (ai @zc3i (ai @zc3h @zc3g)))) (ai (ai (ai @zc3f @zc3e) (ai @zc3d (ai @zc3c @zc3b))) (ai (ai @zc3a (ai @zc29 @zc28)) (ai @zc27 (ai @zc26 @zc25))))))
end Go.Proofs.Ytdcfoaafkppojaa.Sh
