import Derived.Test.YtdcfoaafkppojaaTv8
set_option linter.unusedVariables false
set_option linter.unusedSimpArgs false
/- The tree level: evaluation, step by step: printed by a program of ours. -/
namespace Go.Proofs.Ytdcfoaafkppojaa.Sh
open Go Go.RowKit
def pK (o : Option TV) (d : Option Nat) (K : ap) (fr : TF) (tk : TK) (τ : TH) : Prop := match o with | some v => K (eo fr d v) tk τ | none => False
def zbp8 (lv : List Nat) (tk : TK) (τ : TH) (fr' : TF) (tk' : TK) (τ' : TH) (K : ap) : Prop := if ltL τ.next tk.length (lv.map fun t => lkp fr' t) = true then K (sel lv fr') (tk'.take tk.length) (τ'.cut τ.next) else K (sel lv fr') tk' τ'
def fzK (o : Option TV) (τ : TH) (K : TV → TH → Prop) (τ' : TH) : Prop := match o with | some u => K u (τ'.cut τ.next) | none => False
def rtK (o : Option TV) (τ : TH) (K : TV → TH → Prop) (τ' : TH) : Prop := match o with | some v => (if v.canT.under τ.next then K v.canT (τ'.cut τ.next) else v.canT.under τ'.next = true ∧ K v.canT τ') | none => False
def pl (l : List am) : List (am × List Nat) := l.map fun x => (x,[])
def tLD (Γ : FuncId → Option TG) : List am → ap → ap
 | [],K => K
 | ⟨⟨d,i,none⟩,m⟩ :: r,K => fun fr tk τ => tG Γ true i m d (tLD Γ r K) fr tk τ
 | ⟨⟨d,i,some (t,b)⟩,m⟩ :: r,K => fun fr tk τ => gdK Γ true (lkp fr t) b i m d (tLD Γ r K) fr tk τ
section
variable (Γ : FuncId → Option TG) (dr : Bool) (d : Option Nat) (K : ap) (fr fr' : TF) (tk tk' : TK) (τ τ' : TH) (Q : TEx → ap) (a b : TC) (lv : List Nat) (r : List am) (m : Nat)
theorem zbr2 : ∀ (l : List am) (n : Nat) (told : List (Nat × Ins)) (K : ap),tD Γ n (pl l) K told = tLD Γ l K
 | [],n,told,K => rfl
 | ⟨⟨d,i,g⟩,m⟩ :: r,n,told,K => by
  funext fr tk τ
  cases g with
  | none =>
   show tG Γ true i m d (pnK _ n fr τ told [] (tD Γ (n + 1) (pl r) K)) fr tk τ = tG Γ true i m d (tLD Γ r K) fr tk τ
   have q : pnK ⟨⟨d,i,none⟩,m⟩ n fr τ told [] (tD Γ (n + 1) (pl r) K) = tLD Γ r K := by
    funext fr' tk' τ'
    unfold pnK
    simp [zbr2 r]
   rw [q]
  | some tb =>
   obtain ⟨t,b⟩ := tb
   show gdK Γ true (lkp fr t) b i m d (pnK _ n fr τ told [] (tD Γ (n + 1) (pl r) K)) fr tk τ = gdK Γ true (lkp fr t) b i m d (tLD Γ r K) fr tk τ
   have q : pnK ⟨⟨d,i,some (t,b)⟩,m⟩ n fr τ told [] (tD Γ (n + 1) (pl r) K) = tLD Γ r K := by
    funext fr' tk' τ'
    unfold pnK
    simp [zbr2 r]
   rw [q]
def tSp (Γ : FuncId → Option TG) (o : Option am) (K : ap) : ap := fun fr tk τ => match o with
 | some ⟨⟨d,i,none⟩,m⟩ => tG Γ true i m d K fr tk τ
 | some ⟨⟨d,i,some (t,b)⟩,m⟩ => gdK Γ true (lkp fr t) b i m d K fr tk τ
 | none => False
def tTp (Γ : FuncId → Option TG) (lv : List Nat) (l : List am) : DTr Nat → ap → ap
 | .nil,K => K
 | .cons k r,K => tSp Γ l[k]? (tTp Γ lv l r K)
 | .alt k r j q,K => fun fr tk τ => tSp Γ l[k]? (tTp Γ lv l r fun fr1 tk1 τ1 => tSp Γ l[j]? (tTp Γ lv l q fun fr2 tk2 τ2 => (sel lv fr1 = sel lv fr2 ∧ tk1 = tk2 ∧ τ1 = τ2) ∧ K fr1 tk1 τ1) fr tk τ) fr tk τ
theorem zbrz (l : List am) (k : Nat) (told : List (Nat × Ins)) (K : ap) (K' : List (Nat × Ins) → ap) (hK : ∀ t,K' t = K) : tS Γ (pl l) (pl l)[k]? k told K' = tSp Γ l[k]? K := by
 have e : (pl l)[k]? = (l[k]?).map fun x => (x,[]) := by unfold pl; rw [List.getElem?_map]
 rw [e]
 generalize pl l = L
 funext fr tk τ
 cases l[k]? with
 | none => rfl
 | some x =>
  obtain ⟨⟨d,i,g⟩,m⟩ := x
  cases g with
  | none =>
   show tG Γ true i m d (pnT L _ k fr τ told [] K') fr tk τ = tG Γ true i m d K fr tk τ
   have q : pnT L ⟨⟨d,i,none⟩,m⟩ k fr τ told [] K' = K := by
    funext fr' tk' τ'
    unfold pnT
    simp [hK]
   rw [q]
  | some tb =>
   obtain ⟨t,b⟩ := tb
   show gdK Γ true (lkp fr t) b i m d (pnT L _ k fr τ told [] K') fr tk τ = gdK Γ true (lkp fr t) b i m d K fr tk τ
   have q : pnT L ⟨⟨d,i,some (t,b)⟩,m⟩ k fr τ told [] K' = K := by
    funext fr' tk' τ'
    unfold pnT
    simp [hK]
   rw [q]
theorem zbl0 (l : List am) : ∀ (t : DTr Nat) (K : ap) (K' : List (Nat × Ins) → ap) (hK : ∀ t,K' t = K) (told : List (Nat × Ins)),tT Γ lv (pl l) t K' told = tTp Γ lv l t K
 | .nil,K,K',hK,told => hK told
 | .cons k r,K,K',hK,told => zbrz Γ l k told _ _ fun t => zbl0 l r K K' hK t
 | .alt k r j q,K,K',hK,told => by
  funext fr tk τ
  show tS Γ (pl l) (pl l)[k]? k told (tT Γ lv (pl l) r _) fr tk τ = tSp Γ l[k]? (tTp Γ lv l r _) fr tk τ
  refine congrFun (congrFun (congrFun (zbrz Γ l k told _ _ fun t => zbl0 l r _ _ (fun t1 => ?_) t) fr) tk) τ
  funext fr1 tk1 τ1
  refine congrFun (congrFun (congrFun (zbrz Γ l j told _ _ fun t => zbl0 l q _ _ (fun t2 => ?_) t) fr) tk) τ
  funext fr2 tk2 τ2
  rw [hK]
def zbt8 (Γ : FuncId → Option TG) (l : List am) : List (DTr Nat × List Nat) → ap → ap
 | [],K => K
 | (t,lv) :: r,K => tTp Γ lv l t fun fr' tk' τ' => zbt8 Γ l r K (sel lv fr') tk' τ'
theorem zboi (l : List am) : ∀ (t : List (DTr Nat × List Nat)) (K : ap) (told : List (Nat × Ins)),tSg Γ (pl l) t K told = zbt8 Γ l t K
 | [],K,told => rfl
 | (t,lv) :: r,K,told => zbl0 Γ lv l t _ _ (fun t' => by funext fr' tk' τ'; rw [zboi l r K t']) told
theorem o8 (i : I) : pt i 0 fr τ = (fr,τ) := rfl
theorem o7 (i : I) : pt i 1 fr τ = (fr,τ) := rfl
theorem o6 (i : I) : pt i 2 fr τ = (fr,τ) := rfl
theorem ox (i : I) : pt i 7 fr τ = (fr,τ) := rfl
theorem zbqc : tW Γ .skip Q fr tk τ = Q .normal fr tk τ := zbrv
theorem zbqd (id : Nat) : tW Γ (.exit id) Q fr tk τ = Q (.exit id) fr tk τ := zbrx
theorem zbxo : tW Γ (.ret lv) Q fr tk τ = Q .ret (sel lv fr) tk τ := zbv3
theorem zbxp : tW Γ (.ops r) Q fr tk τ = tL Γ r (Q .normal) fr tk τ := zbv4
theorem zb47 (t : List (DTr Nat × List Nat)) : tW Γ (.drawT (pl r) t) Q fr tk τ = zbt8 Γ r t (Q .normal) fr tk τ := by rw [gg,zboi]
theorem zcma : zbt8 Γ r [] K = K := rfl
theorem zb6h (t : DTr Nat) (q : List (DTr Nat × List Nat)) : zbt8 Γ r ((t,lv) :: q) K fr tk τ = tTp Γ lv r t (fun fr1 tk1 τ1 => zbt8 Γ r q K (sel lv fr1) tk1 τ1) fr tk τ := rfl
theorem zbe4 : tTp Γ lv r .nil K = K := rfl
theorem zcmd (k : Nat) (t : DTr Nat) : tTp Γ lv r (.cons k t) K = tSp Γ r[k]? (tTp Γ lv r t K) := rfl
theorem zbe5 (k j : Nat) (t q : DTr Nat) : tTp Γ lv r (.alt k t j q) K fr tk τ = tSp Γ r[k]? (tTp Γ lv r t fun fr1 tk1 τ1 => tSp Γ r[j]? (tTp Γ lv r q fun fr2 tk2 τ2 => (sel lv fr1 = sel lv fr2 ∧ tk1 = tk2 ∧ τ1 = τ2) ∧ K fr1 tk1 τ1) fr tk τ) fr tk τ := rfl
theorem zcmb (i : I) : tSp Γ (some ⟨⟨d,i,none⟩,m⟩) K fr tk τ = tG Γ true i m d K fr tk τ := rfl
theorem zcmc (i : I) (t : Nat) (b : Bool) : tSp Γ (some ⟨⟨d,i,some (t,b)⟩,m⟩) K fr tk τ = gdK Γ true (lkp fr t) b i m d K fr tk τ := rfl
theorem zbkm : tW Γ (.draw (pl r)) Q fr tk τ = tLD Γ r (Q .normal) fr tk τ := by rw [jr,zbr2]
theorem zbxn : tW Γ (.seq a b) Q fr tk τ = tW Γ a (zbep (tW Γ b Q) Q) fr tk τ := zbv2
theorem zbqe (c : Operand) : tW Γ (.cond c a b) Q fr tk τ = cT Γ (tO fr c) a b Q fr tk τ := zbry
theorem zbko (id : Nat) : tW Γ (.block id lv a) Q fr tk τ = tW Γ a (zbdu id lv tk τ Q) fr tk τ := zblz
theorem zbkn : tW Γ (.clean lv a) Q fr tk τ = tW Γ a Q (sel lv fr) tk τ := zbly
theorem zbj0 (c : Bool) : cT Γ (.bool c) a b Q fr tk τ = if c = true then tW Γ a Q fr tk τ else tW Γ b Q fr tk τ := rfl
theorem zben (n : ap) : zbep n Q .normal = n := rfl
theorem zbem (n : ap) : zbep n Q .ret = Q .ret := rfl
theorem zbeo (n : ap) (id : Nat) : zbep n Q (.exit id) = Q (.exit id) := rfl
theorem zb57 (id : Nat) : zbdu id lv tk τ Q .normal fr' tk' τ' = zbp8 lv tk τ fr' tk' τ' (Q .normal) := by unfold zbdu zbp8 qg; simp only [true_or,if_true]; split <;> rfl
theorem zb56 (id : Nat) : zbdu id lv tk τ Q (.exit id) fr' tk' τ' = zbp8 lv tk τ fr' tk' τ' (Q .normal) := by unfold zbdu zbp8 qg; simp only [or_true,if_true]; split <;> rfl
theorem zcm8 (id j : Nat) (h : (j = id) = False) : zbdu id lv tk τ Q (.exit j) = Q (.exit j) := by funext fr tk τ; unfold zbdu; simp [h]
theorem zb58 (id : Nat) : zbdu id lv tk τ Q .ret = Q .ret := by funext fr tk τ; unfold zbdu; simp
theorem zb3l (Q : TEx → ap) : zbil Γ lv a tk τ Q .normal fr' tk' τ' = zbp8 lv tk τ fr' tk' τ' (tW Γ (.loop lv a) Q) := by simp only [zbil,zbp8,qg]; split <;> rfl
theorem zbij (Q : TEx → ap) : zbil Γ lv a tk τ Q .ret = Q .ret := rfl
theorem zbik (Q : TEx → ap) (id : Nat) : zbil Γ lv a tk τ Q (.exit id) = Q (.exit id) := rfl
theorem zbj5 : zbp8 lv tk τ fr' tk' τ' K = if ltL τ.next tk.length (lv.map fun t => lkp fr' t) = true then K (sel lv fr') (tk'.take tk.length) (τ'.cut τ.next) else K (sel lv fr') tk' τ' := rfl
theorem zbos (rs : List R) (K : TV → TH → Prop) : zbl7 rs false τ K .ret fr tk τ' = rtK (zbb8 rs fr τ') τ K τ' := by unfold zbl7 rtK; cases zbb8 rs fr τ' <;> simp
theorem zbot (rs : List R) (K : TV → TH → Prop) : zbl7 rs false τ K .normal fr tk τ' = rtK (zbb8 rs fr τ') τ K τ' := by unfold zbl7 rtK; cases zbb8 rs fr τ' <;> simp
theorem zbf3 (rs : List R) (K : TV → TH → Prop) : zbl7 rs true τ K .ret fr tk τ' = fzK ((zbb8 rs fr τ').bind (tfz τ' τ.next)) τ K τ' := by unfold zbl7 fzK; cases h : zbb8 rs fr τ' with | none => simp | some v => simp only [Option.bind_some,or_true,true_and,if_true]; cases tfz τ' τ.next v <;> rfl
theorem zbf4 (rs : List R) (K : TV → TH → Prop) : zbl7 rs true τ K .normal fr tk τ' = fzK ((zbb8 rs fr τ').bind (tfz τ' τ.next)) τ K τ' := by unfold zbl7 fzK; cases h : zbb8 rs fr τ' with | none => simp | some v => simp only [Option.bind_some,true_or,true_and,if_true]; cases tfz τ' τ.next v <;> rfl
theorem zcje (v : TV) (K : TV → TH → Prop) : fzK (some v) τ K τ' = K v (τ'.cut τ.next) := rfl
theorem zcmr (v : TV) (K : TV → TH → Prop) : rtK (some v) τ K τ' = if v.canT.under τ.next then K v.canT (τ'.cut τ.next) else v.canT.under τ'.next = true ∧ K v.canT τ' := rfl
theorem zbnw (r : R) : zbb8 [r] fr τ = z0 fr τ r := rfl
theorem zbnx : zbb8 [] fr τ = some (.tup []) := rfl
theorem zbnv (r1 r2 : R) (l : List R) : zbb8 (r1 :: r2 :: l) fr τ = (vi fr τ (r1 :: r2 :: l)).map .tup := rfl
def zbxb (a : Option TV) (b : Option (List TV)) : Option (List TV) := match a,b with | some x,some y => some (x :: y) | _,_ => none
theorem zcbt : vi fr τ [] = some [] := rfl
theorem zcdd (r : R) (l : List R) : vi fr τ (r :: l) = zbxb (z0 fr τ r) (vi fr τ l) := rfl
theorem zb7m (x : TV) (y : List TV) : zbxb (some x) (some y) = some (x :: y) := rfl
def ld1 (τ : TH) : TV → Option TV | .ptr id off => zblo τ id off | .rptr cs off => cs[off]? | _ => none
def ldN (n : Nat) (τ : TH) : TV → Option TV | .ptr id off => if n = 0 then none else (zbbt τ id off n).map .agg | .rptr cs off => if off + n ≤ cs.length then some (.agg ((cs.drop off).take n)) else none | _ => none
def rd1 (τ : TH) : TV → Option TV | .ptr id off => zblo τ id off | _ => none
def rdN (n : Nat) (τ : TH) : TV → Option TV | .ptr id off => if n = 0 then none else (zbbt τ id off n).map .agg | _ => none
theorem zcac (t : Nat) : z0 fr τ (.tmp t) = some (lkp fr t) := rfl
theorem zb8n (t : Nat) : z0 fr τ (.cell1 t) = rd1 τ (lkp fr t) := rfl
theorem zb8o (t n : Nat) : z0 fr τ (.cellN t n) = rdN n τ (lkp fr t) := rfl
theorem zbgr (id off : Nat) : rd1 τ (.ptr id off) = zblo τ id off := rfl
theorem zbgq (n id off : Nat) : rdN n τ (.ptr id off) = if n = 0 then none else (zbbt τ id off n).map .agg := rfl
theorem zbok : tL Γ [] K = K := rfl
theorem zbfa (i : I) : tL Γ (⟨⟨d,i,none⟩,m⟩ :: r) K fr tk τ = tG Γ false i m d (tL Γ r K) fr tk τ := rfl
theorem zbe9 (i : I) (t : Nat) (b : Bool) : tL Γ (⟨⟨d,i,some (t,b)⟩,m⟩ :: r) K fr tk τ = gdK Γ false (lkp fr t) b i m d (tL Γ r K) fr tk τ := rfl
theorem zbfc : tLD Γ [] K = K := rfl
theorem zcl6 (i : I) : tLD Γ (⟨⟨d,i,none⟩,m⟩ :: r) K fr tk τ = tG Γ true i m d (tLD Γ r K) fr tk τ := rfl
theorem zcl7 (i : I) (t : Nat) (b : Bool) : tLD Γ (⟨⟨d,i,some (t,b)⟩,m⟩ :: r) K fr tk τ = gdK Γ true (lkp fr t) b i m d (tLD Γ r K) fr tk τ := rfl
theorem zbw2 (i : I) : gdK Γ dr (.bool true) true i m d K fr tk τ = tG Γ dr i m d K fr tk τ := by simp [gdK]
theorem zbw5 (i : I) : gdK Γ dr (.bool false) false i m d K fr tk τ = tG Γ dr i m d K fr tk τ := by simp [gdK]
theorem zbw3 (i : I) : gdK Γ dr (.bool true) false i m d K fr tk τ = K (eo fr d (.tup [])) tk τ := by simp [gdK]
theorem zbw4 (i : I) : gdK Γ dr (.bool false) true i m d K fr tk τ = K (eo fr d (.tup [])) tk τ := by simp [gdK]
theorem zbp0 (i : I) (b : Bool) : gdK Γ dr (.tup []) b i m d K fr tk τ = K (eo fr d (.tup [])) tk τ := rfl
theorem zbqt (f : FuncId) (args : List Operand) : tG Γ dr (.call f args) 0 d K fr tk τ = fj Γ dr f (args.map fun a => (tO fr a).canT) d K fr tk τ := rfl
theorem zbk4 (f : FuncId) (args : List Operand) : tG Γ dr (.call f args) 1 d K fr tk τ = zbz5 Γ f (zah8 (tfz τ 0) (args.map (tO fr))) d K fr tk τ := rfl
theorem zcmi (f : TV → Option TV) : zah8 f [] = some [] := rfl
def zb4z (a : Option TV) (b : Option (List TV)) : Option (List TV) := match a,b with | some x,some y => some (x :: y) | _,_ => none
theorem zb6k (f : TV → Option TV) (v : TV) (l : List TV) : zah8 f (v :: l) = zb4z (f v) (zah8 f l) := rfl
theorem zb66 (v : TV) (l : List TV) : zb4z (some v) (some l) = some (v :: l) := rfl
theorem zbev (n0 : Nat) (cs : List TV) : tfz τ n0 (.agg cs) = (zah8 (zanc τ n0 2) cs).map .agg := rfl
theorem zcmv (n0 : Nat) (b : Bool) : tfz τ n0 (.bool b) = some (TV.bool b) := rfl
theorem zb6l (n0 : Nat) (b : Bool) : zanc τ n0 2 (.bool b) = some (TV.bool b) := rfl
theorem zbeu (n0 : Nat) (k : IntKind) (n : Int) : tfz τ n0 (.int k n) = some (TV.int k n) := rfl
theorem zcmj (n0 : Nat) (k : IntKind) (n : Int) : zanc τ n0 2 (.int k n) = some (TV.int k n) := rfl
theorem zbeq (n0 : Nat) (s : ByteArray) : tfz τ n0 (.str s) = some (TV.str s) := rfl
theorem zcmu (n0 : Nat) (s : ByteArray) : zanc τ n0 2 (.str s) = some (TV.str s) := rfl
theorem zbn0 (n0 : Nat) (l : List TV) : tfz τ n0 (.sl l) = some (TV.sl l) := rfl
theorem zbew (n0 : Nat) (l : List TV) : zanc τ n0 2 (.sl l) = some (TV.sl l) := rfl
theorem zbet (n0 : Nat) (k : Nat) (l : List TV) : tfz τ n0 (.sla k l) = some (TV.sl l) := rfl
theorem zcmk (n0 : Nat) (k : Nat) (l : List TV) : zanc τ n0 2 (.sla k l) = some (TV.sl l) := rfl
theorem zber (n0 : Nat) : tfz τ n0 .slz = some (.sl []) := rfl
theorem zcml (n0 : Nat) : zanc τ n0 2 .slz = some (.sl []) := rfl
theorem zbes (n0 id off n sz : Nat) : tfz τ n0 (.slm id off n sz) = zanc τ n0 2 (.slm id off n sz) := rfl
theorem zbk3 (f : FuncId) (args : List Operand) : tG Γ dr (.callW f args) m d K fr tk τ = fj Γ false f (args.map fun a => (tO fr a).canT) d K fr tk τ := rfl
def cvK (Γ : FuncId → Option TG) (dr : Bool) (v : TV) (args : List TV) (d : Option Nat) (K : ap) (fr : TF) (tk : TK) (τ : TH) : Prop := match v with | .func f a b => fj Γ dr f (a ++ args ++ b) d K fr tk τ | _ => False
theorem zbk2 (x : Operand) (args : List Operand) : tG Γ dr (.callv x args) m d K fr tk τ = cvK Γ dr (tO fr x) (args.map fun a => (tO fr a).canT) d K fr tk τ := by unfold cvK; rfl
theorem zb41 (x : Operand) (args : List Operand) : tG Γ dr (.callvW x args) m d K fr tk τ = cvK Γ false (tO fr x) (args.map fun a => (tO fr a).canT) d K fr tk τ := by unfold cvK; rfl
theorem zbjq (f : FuncId) (p q args : List TV) : cvK Γ dr (.func f p q) args d K fr tk τ = fj Γ dr f (p ++ args ++ q) d K fr tk τ := rfl
theorem zbg7 (v : TV) : pK (some v) d K fr tk τ = K (eo fr d v) tk τ := rfl
theorem zbo7 (c : Prop) [Decidable c] (v : TV) : pK (if c then some v else none) d K fr tk τ = (c ∧ K (eo fr d v) tk τ) := by unfold pK; by_cases h : c <;> simp [h]
theorem zckl (v : TV) : opK (some (v,tk',τ')) d K fr = K (eo fr d v) tk' τ' := rfl
theorem zb3o (c : Prop) [Decidable c] (x : TV × TK × TH) : opK (if c then some x else none) d K fr = (c ∧ opK (some x) d K fr) := by unfold opK; by_cases h : c <;> simp [h]
theorem zbxs (x : Operand) : tG Γ dr (.mov x) 0 d K fr tk τ = K (eo fr d (tO fr x)) tk τ := rfl
theorem zbqn (x : Operand) : tG Γ dr (.mov x) 3 d K fr tk τ = K (eo fr d (tO fr x).canT) tk τ := rfl
def zbh3 (v : TV) (d : Option Nat) (K : ap) (fr : TF) (tk : TK) (τ : TH) : Prop := match v with | .slz => K (eo fr d (.sla tk.length [])) (tk ++ [some (0,0)]) τ | _ => False
theorem zbqo (x : Operand) : tG Γ dr (.mov x) 1 d K fr tk τ = zbh3 (tO fr x) d K fr tk τ := by unfold zbh3; simp only [tG,tOp,if_true]; cases tO fr x <;> rfl
theorem zck0 : zbh3 .slz d K fr tk τ = K (eo fr d (.sla tk.length [])) (tk ++ [some (0,0)]) τ := rfl
def zbsc (c a b : TV) : Option TV := match c with | .bool t => some (bif t then a else b) | _ => none
theorem iu (o : Option TV) : opK (o.map fun v => (v,tk,τ)) d K fr = pK o d K fr tk τ := by cases o <;> rfl
theorem zbqm (c a b : Operand) : tG Γ dr (.pick c a b) m d K fr tk τ = pK (zbsc (tO fr c) (tO fr a) (tO fr b)) d K fr tk τ := (iu d K fr tk τ (tP (.pick c a b) fr τ)).trans (by unfold zbsc; rfl)
theorem zbg5 (t : Bool) (v w : TV) : zbsc (.bool t) v w = some (bif t then v else w) := rfl
theorem zbkz (x : Operand) : tG Γ dr (.load1 x) 0 d K fr tk τ = pK (ld1 τ (tO fr x)) d K fr tk τ := (iu d K fr tk τ (tP (.load1 x) fr τ)).trans (by unfold ld1; rfl)
theorem zbiy (id off : Nat) : ld1 τ (.ptr id off) = zblo τ id off := rfl
theorem zcjm (cs : List TV) (off : Nat) : ld1 τ (.rptr cs off) = cs[off]? := rfl
theorem zbkx (n : Nat) (x : Operand) : tG Γ dr (.loadN n x) m d K fr tk τ = pK (ldN n τ (tO fr x)) d K fr tk τ := (iu d K fr tk τ (tP (.loadN n x) fr τ)).trans (by unfold ldN; rfl)
theorem zbix (n id off : Nat) : ldN n τ (.ptr id off) = if n = 0 then none else (zbbt τ id off n).map .agg := rfl
theorem zcjn (n : Nat) (cs : List TV) (off : Nat) : ldN n τ (.rptr cs off) = if off + n ≤ cs.length then some (.agg ((cs.drop off).take n)) else none := rfl
def zbwo : TV → Option TV | .ptr id off => some (.ptr id off) | .rptr cs off => some (.rptr cs off) | .func f a b => some (.func f a b) | _ => none
theorem zb45 (x : Operand) : tG Γ dr (.nilchk x) m d K fr tk τ = pK (zbwo (tO fr x)) d K fr tk τ := (iu d K fr tk τ (tP (.nilchk x) fr τ)).trans (by unfold zbwo; rfl)
theorem zckz (id off : Nat) : zbwo (.ptr id off) = some (.ptr id off) := rfl
theorem zcpj (cs : List TV) (off : Nat) : zbwo (.rptr cs off) = some (.rptr cs off) := rfl
theorem zcos (f : FuncId) (p q : List TV) : zbwo (.func f p q) = some (.func f p q) := rfl
theorem zbxy (op : BinOp) (x y : Operand) : tG Γ dr (.bin op x y) m d K fr tk τ = pK (a6 op (tO fr x) (tO fr y)) d K fr tk τ := (iu d K fr tk τ (tP (.bin op x y) fr τ)).trans (by rfl)
def eqb (neg : Bool) (p q : TV) : Option TV := match p,q with | .bool p,.bool q => some (.bool (bif neg then p != q else p == q)) | _,_ => none
theorem zbxw (neg : Bool) (x y : Operand) : tG Γ dr (.eqB neg x y) m d K fr tk τ = pK (eqb neg (tO fr x) (tO fr y)) d K fr tk τ := (iu d K fr tk τ (tP (.eqB neg x y) fr τ)).trans (by unfold eqb; rfl)
theorem zbp5 (neg p q : Bool) : eqb neg (.bool p) (.bool q) = some (.bool (bif neg then p != q else p == q)) := rfl
theorem zbk0 (k : NK) (neg : Bool) (x : Operand) : tG Γ dr (.isNil k neg x) m d K fr tk τ = pK ((zbcl k (tO fr x)).map fun b => .bool (bif neg then !b else b)) d K fr tk τ := (iu d K fr tk τ (tP (.isNil k neg x) fr τ)).trans (by rfl)
theorem zb98  : zbcl .p (.nilP) = some true := rfl
theorem zb8k (i o : Nat) : zbcl .p (.ptr i o) = some false := rfl
theorem zb99 (c : List TV) (o : Nat) : zbcl .p (.rptr c o) = some false := rfl
theorem zb8m  : zbcl .s (.slz) = some true := rfl
theorem zb6m (v : TV) (l : List TV) : zbcl .s (.sl (v :: l)) = some false := rfl
theorem zb8l (i o n s : Nat) : zbcl .s (.slm i o n s) = some false := rfl
theorem zb97  : zbcl .m (.nilM) = some true := rfl
theorem zcak  : zbcl .f (.nilF) = some true := rfl
theorem zcaj (f : FuncId) (p q : List TV) : zbcl .f (.func f p q) = some false := rfl
theorem zcqr (op : UnOp) (x : Operand) : tG Γ dr (.un op x) m d K fr tk τ = pK (tun op (tO fr x)) d K fr tk τ := (iu d K fr tk τ (tP (.un op x) fr τ)).trans (by rfl)
def cnv (k : IntKind) : TV → Option TV | .int _ n => some (.int k (k.wrap n)) | _ => none
theorem zbqs (k : IntKind) (x : Operand) : tG Γ dr (.conv k x) m d K fr tk τ = pK (cnv k (tO fr x)) d K fr tk τ := (iu d K fr tk τ (tP (.conv k x) fr τ)).trans (by unfold cnv; rfl)
theorem zbjt (k j : IntKind) (n : Int) : cnv k (.int j n) = some (.int k (k.wrap n)) := rfl
def zb4q : TV → Option TV | .str s => some (.str s) | _ => none
theorem zbk1 (x : Operand) : tG Γ dr (.convS x) m d K fr tk τ = pK (zb4q (tO fr x)) d K fr tk τ := (iu d K fr tk τ (tP (.convS x) fr τ)).trans (by unfold zb4q; rfl)
theorem zcjy (s : ByteArray) : zb4q (.str s) = some (.str s) := rfl
def fad (off : Nat) : TV → Option TV | .ptr id o => some (.ptr id (o + off)) | .rptr cs o => some (.rptr cs (o + off)) | _ => none
theorem zb81 (off : Nat) (x : Operand) : tG Γ dr (.fieldAddr off x) 0 d K fr tk τ = pK (fad off (tO fr x)) d K fr tk τ := (iu d K fr tk τ (tP (.fieldAddr off x) fr τ)).trans (by unfold fad; rfl)
def lfO (b : Option Ob) (id o off : Nat) (d : Option Nat) (K : ap) (fr : TF) (tk : TK) (τ : TH) : Prop := match b with
 | some b => (τ.lock ≤ id ∧ b.cs ≠ []) ∧ K (eo (zbbz id τ.next fr) d (.ptr τ.next (o + off))) tk ((τ.put id ⟨b.t,[]⟩).push b)
 | none => False
def lfK (off : Nat) (v : TV) (d : Option Nat) (K : ap) (fr : TF) (tk : TK) (τ : TH) : Prop := match v with | .ptr id o => lfO (τ.at id) id o off d K fr tk τ | _ => False
theorem zbe8 (id n : Nat) (fr : TF) (x : Operand) : tO (zbbz id n fr) x = ren id n (tO fr x) ∨ ∃ v,x = .const v := by
 cases x with
 | tmp t =>
  left
  induction fr with
  | nil => rfl
  | cons p r ih =>
   obtain ⟨k,v⟩ := p
   show lkp ((k,ren id n v) :: zbbz id n r) t = ren id n (lkp ((k,v) :: r) t)
   simp only [lkp]
   by_cases h : t = k
   · rw [if_pos h,if_pos h]
   · rw [if_neg h,if_neg h]; exact ih
 | const v => exact .inr ⟨v,rfl⟩
 | func f => left; rfl
 | global g => left; rfl
theorem zbqp (off : Nat) (t : Nat) (h : lfK off (lkp fr t) d K fr tk τ) : tG Γ dr (.fieldAddr off (.tmp t)) 9 d K fr tk τ := by
 unfold lfK at h
 split at h
 · rename_i id o hz
   have hz' : tO fr (.tmp t) = .ptr id o := hz
   unfold lfO at h
   split at h
   · rename_i b hb
     obtain ⟨hc,h⟩ := h
     have e : pt (.fieldAddr off (.tmp t)) 9 fr τ = (zbbz id τ.next fr,(τ.put id ⟨b.t,[]⟩).push b) := by
      unfold pt zbrj
      rw [if_pos rfl]
      simp only [hz',hb]
      rw [if_pos hc]
     simp only [tG,e]
     have e2 : tO (zbbz id τ.next fr) (.tmp t) = .ptr τ.next o := by
      rcases zbe8 id τ.next fr (.tmp t) with e2 | ⟨v,e2⟩
      · rw [e2,hz']; simp [ren]
      · cases e2
     simp only [tOp,tP,e2]
     exact h
   · exact h.elim
 · exact h.elim
theorem zbis (off id o : Nat) : lfK off (.ptr id o) d K fr tk τ = lfO (τ.at id) id o off d K fr tk τ := rfl
theorem zcjr (id o off : Nat) (t : TypeId) (cs : List TV) : lfO (some ⟨t,cs⟩) id o off d K fr tk τ = ((τ.lock ≤ id ∧ cs ≠ []) ∧ K (eo (zbbz id τ.next fr) d (.ptr τ.next (o + off))) tk ((τ.put id ⟨t,[]⟩).push ⟨t,cs⟩)) := rfl
theorem zclm (i n : Nat) : zbbz i n [] = [] := rfl
theorem zcpg (i n k : Nat) (v : TV) (l : TF) : zbbz i n ((k,v) :: l) = (k,ren i n v) :: zbbz i n l := rfl
theorem zbgc (i n j o : Nat) : ren i n (.ptr j o) = if j = i then .ptr n o else .ptr j o := rfl
theorem zcph (i n : Nat)  : ren i n (TV.undef ) = TV.undef  := rfl
theorem zcln (i n : Nat) (b : Bool) : ren i n (TV.bool b) = TV.bool b := rfl
theorem zbgd (i n : Nat) (k : IntKind) (x : Int) : ren i n (TV.int k x) = TV.int k x := rfl
theorem zbf6 (i n : Nat) (s : ByteArray) : ren i n (TV.str s) = TV.str s := rfl
theorem zcmn (i n : Nat)  : ren i n (TV.nilP ) = TV.nilP  := rfl
theorem zcmo (i n : Nat) (c : List TV) (o : Nat) : ren i n (TV.rptr c o) = TV.rptr c o := rfl
theorem zbf7 (i n : Nat)  : ren i n (TV.slz ) = TV.slz  := rfl
theorem zbou (i n : Nat) (l : List TV) : ren i n (TV.sl l) = TV.sl l := rfl
theorem zbgb (i n : Nat) (k : Nat) (l : List TV) : ren i n (TV.sla k l) = TV.sla k l := rfl
theorem zbga (i n : Nat) (k : Nat) (t : TypeId) : ren i n (TV.slb k t) = TV.slb k t := rfl
theorem zbf8 (i n : Nat) (t : TypeId) (l : List TV) : ren i n (TV.slo t l) = TV.slo t l := rfl
theorem zbf9 (i n : Nat) (j o n0 s : Nat) : ren i n (TV.slm j o n0 s) = TV.slm j o n0 s := rfl
theorem zcmm (i n : Nat)  : ren i n (TV.nilM ) = TV.nilM  := rfl
theorem zclp (i n : Nat)  : ren i n (TV.nilF ) = TV.nilF  := rfl
theorem zclo (i n : Nat) (f : FuncId) (p q : List TV) : ren i n (TV.func f p q) = TV.func f p q := rfl
theorem zclq (i n : Nat)  : ren i n (TV.nilI ) = TV.nilI  := rfl
theorem zbge (i n : Nat) (cs : List TV) : ren i n (TV.agg cs) = TV.agg cs := rfl
theorem zbf5 (i n : Nat) (cs : List TV) : ren i n (TV.tup cs) = TV.tup cs := rfl
theorem zbjn (off id o : Nat) : fad off (.ptr id o) = some (.ptr id (o + off)) := rfl
theorem zcjc (off : Nat) (cs : List TV) (o : Nat) : fad off (.rptr cs o) = some (.rptr cs (o + off)) := rfl
def fl1 (off : Nat) : TV → Option TV | .agg cs => cs[off]? | _ => none
theorem zb42 (off : Nat) (x : Operand) : tG Γ dr (.field1 off x) m d K fr tk τ = pK (fl1 off (tO fr x)) d K fr tk τ := (iu d K fr tk τ (tP (.field1 off x) fr τ)).trans (by unfold fl1; rfl)
theorem zbjm (off : Nat) (cs : List TV) : fl1 off (.agg cs) = cs[off]? := rfl
def flN (off n : Nat) : TV → Option TV | .agg cs => if off + n ≤ cs.length then some (.agg ((cs.drop off).take n)) else none | _ => none
theorem zb43 (off n : Nat) (x : Operand) : tG Γ dr (.fieldN off n x) m d K fr tk τ = pK (flN off n (tO fr x)) d K fr tk τ := (iu d K fr tk τ (tP (.fieldN off n x) fr τ)).trans (by unfold flN; rfl)
theorem zbjl (off n : Nat) (cs : List TV) : flN off n (.agg cs) = if off + n ≤ cs.length then some (.agg ((cs.drop off).take n)) else none := rfl
def ixP (len sz : Nat) (x i : TV) : Option TV := match x,i with
 | .ptr id o,.int _ n => if 0 ≤ n ∧ n < len then some (.ptr id (o + n.toNat * sz)) else none
 | .rptr cs o,.int _ n => if 0 ≤ n ∧ n < len then some (.rptr cs (o + n.toNat * sz)) else none
 | _,_ => none
theorem zb7a (len sz : Nat) (x i : Operand) : tG Γ dr (.indexPtr len sz x i) m d K fr tk τ = pK (ixP len sz (tO fr x) (tO fr i)) d K fr tk τ := (iu d K fr tk τ (tP (.indexPtr len sz x i) fr τ)).trans (by unfold ixP; rfl)
theorem zbi7 (len sz id o : Nat) (k : IntKind) (n : Int) : ixP len sz (.ptr id o) (.int k n) = if 0 ≤ n ∧ n < len then some (.ptr id (o + n.toNat * sz)) else none := rfl
theorem zcjj (len sz : Nat) (cs : List TV) (o : Nat) (k : IntKind) (n : Int) : ixP len sz (.rptr cs o) (.int k n) = if 0 ≤ n ∧ n < len then some (.rptr cs (o + n.toNat * sz)) else none := rfl
def ixS (sz : Nat) (x i : TV) : Option TV := match i with
 | .int _ n => (match x with
  | .slm id o len s => if 0 ≤ n ∧ n < len ∧ s = sz then some (.ptr id (o + n.toNat * sz)) else none
  | v => v.list.bind fun l => if 0 ≤ n ∧ n < l.length ∧ (l.getD n.toNat .undef).cells.length = sz then some (.rptr (l.getD n.toNat .undef).cells 0) else none)
 | _ => none
theorem zcnj (sz : Nat) (x i : Operand) : tG Γ dr (.indexSl sz x i) m d K fr tk τ = pK (ixS sz (tO fr x) (tO fr i)) d K fr tk τ := (iu d K fr tk τ (tP (.indexSl sz x i) fr τ)).trans (by unfold ixS; rfl)
theorem zbpw (sz : Nat) (l : List TV) (j : IntKind) (n : Int) : ixS sz (.sl l) (.int j n) = if 0 ≤ n ∧ n < l.length ∧ (l.getD n.toNat .undef).cells.length = sz then some (.rptr (l.getD n.toNat .undef).cells 0) else none := rfl
theorem zbi6 (sz : Nat) (k : Nat) (l : List TV) (j : IntKind) (n : Int) : ixS sz (.sla k l) (.int j n) = if 0 ≤ n ∧ n < l.length ∧ (l.getD n.toNat .undef).cells.length = sz then some (.rptr (l.getD n.toNat .undef).cells 0) else none := rfl
theorem zbi5 (sz id o len s : Nat) (j : IntKind) (n : Int) : ixS sz (.slm id o len s) (.int j n) = if 0 ≤ n ∧ n < len ∧ s = sz then some (.ptr id (o + n.toNat * sz)) else none := rfl
def ixT (x i : TV) : Option TV := match x,i with | .str s,.int _ n => if 0 ≤ n ∧ n < s.size then some (.int .u8 (s.data.getD n.toNat 0).toNat) else none | _,_ => none
theorem zb7v (x i : Operand) : tG Γ dr (.indexStr x i) m d K fr tk τ = pK (ixT (tO fr x) (tO fr i)) d K fr tk τ := (iu d K fr tk τ (tP (.indexStr x i) fr τ)).trans (by unfold ixT; rfl)
theorem zbw0 (s : ByteArray) (k : IntKind) (n : Int) : ixT (.str s) (.int k n) = if 0 ≤ n ∧ n < s.size then some (.int .u8 (s.data.getD n.toNat 0).toNat) else none := rfl
def slT (x : TV) (lo hi : Option TV) : Option TV := match x with | .str s => (j8 s.size lo hi).map fun lh => .str (s.extract lh.1 lh.2) | _ => none
theorem zb7w (x : Operand) (lo hi : Option Operand) : tG Γ dr (.sliceStr x lo hi) m d K fr tk τ = pK (slT (tO fr x) (lo.map (tO fr)) (hi.map (tO fr))) d K fr tk τ := (iu d K fr tk τ (tP (.sliceStr x lo hi) fr τ)).trans (by unfold slT; rfl)
theorem zbv7 (s : ByteArray) (lo hi : Option TV) : slT (.str s) lo hi = (j8 s.size lo hi).map fun lh => .str (s.extract lh.1 lh.2) := rfl
def slS (sz : Nat) (x : TV) (lo hi : Option TV) : Option TV := match x with
 | .slm id o len s => if s = sz then (j8 len lo hi).map fun lh => .slm id (o + lh.1 * sz) (lh.2 - lh.1) sz else none
 | .sl l => if l.all (fun e => e.cells.length == sz) && !l.isEmpty then (j8 l.length lo hi).map fun lh => .sl ((l.take lh.2).drop lh.1) else none
 | .sla _ l => if l.all (fun e => e.cells.length == sz) && !l.isEmpty then (j8 l.length lo hi).map fun lh => .sl ((l.take lh.2).drop lh.1) else none
 | _ => none
theorem zcm2 (sz : Nat) (x : Operand) (lo hi : Option Operand) : tG Γ dr (.sliceSl sz x lo hi) m d K fr tk τ = pK (slS sz (tO fr x) (lo.map (tO fr)) (hi.map (tO fr))) d K fr tk τ := (iu d K fr tk τ (tP (.sliceSl sz x lo hi) fr τ)).trans (by unfold slS; rfl)
theorem zbop (sz : Nat) (l : List TV) (lo hi : Option TV) : slS sz (.sl l) lo hi = if l.all (fun e => e.cells.length == sz) && !l.isEmpty then (j8 l.length lo hi).map fun lh => .sl ((l.take lh.2).drop lh.1) else none := rfl
theorem zbfl (sz k : Nat) (l : List TV) (lo hi : Option TV) : slS sz (.sla k l) lo hi = if l.all (fun e => e.cells.length == sz) && !l.isEmpty then (j8 l.length lo hi).map fun lh => .sl ((l.take lh.2).drop lh.1) else none := rfl
theorem zbfk (sz id o len s : Nat) (lo hi : Option TV) : slS sz (.slm id o len s) lo hi = if s = sz then (j8 len lo hi).map fun lh => .slm id (o + lh.1 * sz) (lh.2 - lh.1) sz else none := rfl
theorem zbvw (n : Nat) : j8 n none none = some (0,n) := rfl
theorem zbvy (n : Nat) (k : IntKind) (l : Int) : j8 n (some (.int k l)) none = if 0 ≤ l ∧ l ≤ n then some (l.toNat,n) else none := rfl
theorem zbvx (n : Nat) (k : IntKind) (h : Int) : j8 n none (some (.int k h)) = if 0 ≤ h ∧ h ≤ n then some (0,h.toNat) else none := by unfold j8 tHi; by_cases c : 0 ≤ h ∧ h ≤ n <;> simp [c,tLo]
theorem zbvz (n : Nat) (k j : IntKind) (l h : Int) : j8 n (some (.int k l)) (some (.int j h)) = if (0 ≤ h ∧ h ≤ n) ∧ 0 ≤ l ∧ l ≤ h then some (l.toNat,h.toNat) else none := by
 unfold j8 tHi
 by_cases c : 0 ≤ h ∧ h ≤ n
 · have e : ((h.toNat : Nat) : Int) = h := by omega
   simp only [c,and_self,if_true,Option.bind_some,tLo,e,true_and]
 · have c' : ¬ ((0 ≤ h ∧ h ≤ n) ∧ 0 ≤ l ∧ l ≤ h) := fun q => c q.1
   rw [if_neg c']
   simp [c]
theorem zbh6 {α β : Type} (c : Prop) [Decidable c] (x : α) (f : α → β) : (if c then some x else none : Option α).map f = if c then some (f x) else none := by by_cases h : c <;> simp [h]
def zb4g : TV → Option TV | .str s => some (.int .i64 s.size) | _ => none
theorem zbqq (x : Operand) : tG Γ dr (.lenS x) m d K fr tk τ = pK (zb4g (tO fr x)) d K fr tk τ := (iu d K fr tk τ (tP (.lenS x) fr τ)).trans (by unfold zb4g; rfl)
theorem zbpv (s : ByteArray) : zb4g (.str s) = some (.int .i64 s.size) := rfl
def zbpu : TV → Option TV | .slm _ _ n _ => some (.int .i64 n) | v => v.list.map fun l => .int .i64 l.length
theorem zbqr (x : Operand) : tG Γ dr (.lenL x) m d K fr tk τ = pK (zbpu (tO fr x)) d K fr tk τ := (iu d K fr tk τ (tP (.lenL x) fr τ)).trans (by unfold zbpu; rfl)
theorem zcjp (id o n s : Nat) : zbpu (.slm id o n s) = some (.int .i64 n) := rfl
theorem zbit (l : List TV) : zbpu (.sl l) = some (.int .i64 l.length) := rfl
theorem zcjo (k : Nat) (l : List TV) : zbpu (.sla k l) = some (.int .i64 l.length) := rfl
theorem zcjq : zbpu .slz = some (.int .i64 0) := rfl
def zb4d (x y : TV) : Option TV := match x,y with | .int k a,.int _ b => some (.int k (if b < a then b else a)) | _,_ => none
theorem zbxt (x y : Operand) : tG Γ dr (.min x y) m d K fr tk τ = pK (zb4d (tO fr x) (tO fr y)) d K fr tk τ := (iu d K fr tk τ (tP (.min x y) fr τ)).trans (by unfold zb4d; rfl)
theorem zbph (k j : IntKind) (a b : Int) : zb4d (.int k a) (.int j b) = some (.int k (if b < a then b else a)) := rfl
def zb4f (x y : TV) : Option TV := match x,y with | .int k a,.int _ b => some (.int k (if a < b then b else a)) | _,_ => none
theorem zbxu (x y : Operand) : tG Γ dr (.max x y) m d K fr tk τ = pK (zb4f (tO fr x) (tO fr y)) d K fr tk τ := (iu d K fr tk τ (tP (.max x y) fr τ)).trans (by unfold zb4f; rfl)
theorem zbpi (k j : IntKind) (a b : Int) : zb4f (.int k a) (.int j b) = some (.int k (if a < b then b else a)) := rfl
theorem zb44 (f : FuncId) (first captured : List Operand) : tG Γ dr (.mkFunc (.func f) first captured) m d K fr tk τ = K (eo fr d (.func f (first.map fun x => (tO fr x).canS) (captured.map fun x => (tO fr x).canS))) tk τ := rfl
def exT (i : Nat) : TV → Option TV | .tup cs => cs[i]? | _ => none
theorem zcni (x : Operand) (i : Nat) : tG Γ dr (.extract x i) m d K fr tk τ = pK (exT i (tO fr x)) d K fr tk τ := (iu d K fr tk τ (tP (.extract x i) fr τ)).trans (by unfold exT; rfl)
theorem zbw7 (i : Nat) (cs : List TV) : exT i (.tup cs) = cs[i]? := rfl
theorem zbk5 (zero : List Value) (parts : List (Nat × Nat × Operand)) : tG Γ dr (.build zero parts) m d K fr tk τ = pK ((zbna (zero.map ofS) (parts.map fun p => (p.1,p.2.1,tO fr p.2.2))).map .agg) d K fr tk τ := (iu d K fr tk τ (tP (.build zero parts) fr τ)).trans (by rfl)
theorem zb6j (cs : List TV) : zbna cs [] = some cs := rfl
theorem zb8j (cs : List TV) (off size : Nat) (v : TV) (r : List (Nat × Nat × TV)) : zbna cs ((off,size,v) :: r) = if v.known = true ∧ v.cells.length = size ∧ off + size ≤ cs.length then zbna (zbbu cs off (v.cells.map TV.part)) r else none := rfl
theorem zb0p (cs : List TV) (off : Nat) : zbbu cs off [] = cs := rfl
theorem zb0v (cs : List TV) (off : Nat) (v : TV) (r : List TV) : zbbu cs off (v :: r) = zbbu (cs.set off v) (off + 1) r := rfl
def zbt9 (τ : TH) : TV → Option TV | .slm id off n s => (if s = 1 then ((zbbt τ id off n).bind yn).map fun bs => .str ⟨bs.toArray⟩ else none) | v => (v.list.bind yn).map fun bs => .str ⟨bs.toArray⟩
theorem zbkv (x : Operand) : tG Γ dr (.toStr x) m d K fr tk τ = pK (zbt9 τ (tO fr x)) d K fr tk τ := (iu d K fr tk τ (tP (.toStr x) fr τ)).trans (by unfold zbt9; rfl)
theorem zcmy (l : List TV) : zbt9 τ (.sl l) = (yn l).map fun bs => .str ⟨bs.toArray⟩ := rfl
theorem zb67 (k : Nat) (l : List TV) : zbt9 τ (.sla k l) = (yn l).map fun bs => .str ⟨bs.toArray⟩ := rfl
theorem zcl3 : zbt9 τ .slz = some (.str ⟨#[]⟩) := rfl
theorem zcl2 (id off n s : Nat) : zbt9 τ (.slm id off n s) = if s = 1 then ((zbbt τ id off n).bind yn).map fun bs => .str ⟨bs.toArray⟩ else none := rfl
def ixA (len : Nat) (x i : TV) : Option TV := match x,i with | .agg cs,.int _ n => if 0 ≤ n ∧ n < len ∧ len ≤ cs.length then cs[n.toNat]? else none | _,_ => none
theorem zb69 (len : Nat) (x i : Operand) : tG Γ dr (.indexAgg len x i) m d K fr tk τ = pK (ixA len (tO fr x) (tO fr i)) d K fr tk τ := (iu d K fr tk τ (tP (.indexAgg len x i) fr τ)).trans (by unfold ixA; rfl)
theorem zbw1 (len : Nat) (cs : List TV) (k : IntKind) (n : Int) : ixA len (.agg cs) (.int k n) = if 0 ≤ n ∧ n < len ∧ len ≤ cs.length then cs[n.toNat]? else none := rfl
def zb4h (len sz : Nat) (x i : TV) : Option TV := match x,i with | .agg cs,.int _ n => if 0 ≤ n ∧ n < len ∧ len * sz ≤ cs.length then some (.agg ((cs.drop (n.toNat * sz)).take sz)) else none | _,_ => none
theorem zb9f (len sz : Nat) (x i : Operand) : tG Γ dr (.indexAggN len sz x i) m d K fr tk τ = pK (zb4h len sz (tO fr x) (tO fr i)) d K fr tk τ := (iu d K fr tk τ (tP (.indexAggN len sz x i) fr τ)).trans (by unfold zb4h; rfl)
theorem zbpx (len sz : Nat) (cs : List TV) (k : IntKind) (n : Int) : zb4h len sz (.agg cs) (.int k n) = if 0 ≤ n ∧ n < len ∧ len * sz ≤ cs.length then some (.agg ((cs.drop (n.toNat * sz)).take sz)) else none := rfl
def eqA (neg : Bool) (ks : List FK) (x y : TV) : Option TV := match x,y with | .agg p,.agg q => (zbt7 ks p q).map fun b => .bool (bif neg then !b else b) | _,_ => none
theorem zbxv (neg : Bool) (ks : List FK) (x y : Operand) : tG Γ dr (.eqF neg ks x y) m d K fr tk τ = pK (eqA neg ks (tO fr x) (tO fr y)) d K fr tk τ := (iu d K fr tk τ (tP (.eqF neg ks x y) fr τ)).trans (by unfold eqA; rfl)
theorem zbw8 (neg : Bool) (ks : List FK) (p q : List TV) : eqA neg ks (.agg p) (.agg q) = (zbt7 ks p q).map fun b => .bool (bif neg then !b else b) := rfl
theorem zbxx (t n : Nat) (x : Operand) : tG Γ dr (.box t n x) m d K fr tk τ = (((tO fr x).cells.all TV.one = true ∧ ft τ.next ((tO fr x).cells.map TV.put) = true) ∧ K (eo fr d (.ptr τ.next 0)) tk (τ.push ⟨t,(tO fr x).cells.map TV.put⟩)) := zb3o d K fr _ _
def stK (n : Nat) (a x : TV) (d : Option Nat) (K : ap) (fr : TF) (tk : TK) (τ : TH) : Prop := match a with
 | .ptr id off => x.cells.length = n ∧ (match zbq0 τ id off (x.cells.map TV.put) with | some τ' => K (eo fr d (.tup [])) tk τ' | none => False)
 | _ => False
theorem zbkw (n : Nat) (y x : Operand) : tG Γ dr (.store n y x) 0 d K fr tk τ = stK n (tO fr y) (tO fr x) d K fr tk τ := by
 have e0 : pt (.store n y x) 0 fr τ = (fr,τ) := rfl
 simp only [tG,e0,tOp,stK]
 cases tO fr y with
 | ptr id off =>
  by_cases h : (tO fr x).cells.length = n
  · simp only [h,if_true,true_and,show (0 : Nat) = 2 ↔ False from by decide,if_false]
    cases zbq0 τ id off ((tO fr x).cells.map TV.put) <;> rfl
  · simp [h,opK]
 | _ => rfl
def stB (o : Option Ob) (id off : Nat) (vs : List TV) (d : Option Nat) (K : ap) (fr : TF) (tk : TK) (τ : TH) : Prop := match o with
 | some b => (τ.lock ≤ id ∧ vs ≠ [] ∧ off + vs.length ≤ b.cs.length ∧ (vs.all TV.one = true) ∧ ft (id + 1) vs = true) ∧ K (eo fr d (.tup [])) tk (τ.put id ⟨b.t,zbbu b.cs off vs⟩)
 | none => False
theorem zbm9 (n t : Nat) (x : Operand) (id o : Nat) (T : TypeId) (cs : List TV) (hz : lkp fr t = .ptr id o) (hb : τ.at id = some ⟨T,cs⟩) (hc : τ.lock ≤ id ∧ cs ≠ []) (hx : ∀ v,x ≠ .const v)
 (h : stK n (.ptr τ.next o) (ren id τ.next (tO fr x)) d K (zbbz id τ.next fr) tk ((τ.put id ⟨T,[]⟩).push ⟨T,cs⟩)) : tG Γ dr (.store n (.tmp t) x) 9 d K fr tk τ := by
 have hz' : tO fr (.tmp t) = .ptr id o := hz
 have e : pt (.store n (.tmp t) x) 9 fr τ = (zbbz id τ.next fr,(τ.put id ⟨T,[]⟩).push ⟨T,cs⟩) := by
  unfold pt zbrj
  rw [if_pos rfl]
  simp only [hz',hb]
  rw [if_pos hc]
 have e2 : tO (zbbz id τ.next fr) (.tmp t) = .ptr τ.next o := by
  rcases zbe8 id τ.next fr (.tmp t) with e2 | ⟨v,e2⟩
  · rw [e2,hz']; simp [ren]
  · cases e2
 have e3 : tO (zbbz id τ.next fr) x = ren id τ.next (tO fr x) := by
  rcases zbe8 id τ.next fr x with e3 | ⟨v,e3⟩
  · exact e3
  · exact absurd e3 (hx v)
 simp only [tG,e,tOp,e2,e3]
 unfold stK at h
 simp only at h
 rw [if_neg (by decide),if_pos h.1]
 have h2 := h.2
 revert h2
 cases zbq0 ((τ.put id ⟨T,[]⟩).push ⟨T,cs⟩) τ.next o ((ren id τ.next (tO fr x)).cells.map TV.put) <;> exact fun h => h
theorem zbfi (n id off : Nat) (x : TV) : stK n (.ptr id off) x d K fr tk τ = (x.cells.length = n ∧ stB (τ.at id) id off (x.cells.map TV.put) d K fr tk τ) := by
 simp only [stK,stB,zbq0]
 cases τ.at id with
 | none => rfl
 | some b =>
  simp only [Option.bind_some]
  split
  · rename_i τ' h
    split at h
    · rename_i hc; injection h with h; subst h; simp only [hc,ne_eq,not_false_eq_true,and_self,true_and]
    · cases h
  · rename_i h
    split at h
    · cases h
    · rename_i hc; simp only [hc,false_and]
theorem zcl1 (t : TypeId) (cs : List TV) (id off : Nat) (vs : List TV) : stB (some ⟨t,cs⟩) id off vs d K fr tk τ = ((τ.lock ≤ id ∧ vs ≠ [] ∧ off + vs.length ≤ cs.length ∧ (vs.all TV.one = true) ∧ ft (id + 1) vs = true) ∧ K (eo fr d (.tup [])) tk (τ.put id ⟨t,zbbu cs off vs⟩)) := rfl
def tkB (o : Option Ob) (id off : Nat) (d : Option Nat) (K : ap) (fr : TF) (tk : TK) (τ : TH) : Prop := match o with
 | some b => (match b.cs[off]? with | some (.slo t l) => τ.lock ≤ id ∧ K (eo fr d (.sla tk.length l)) (tk ++ [some (l.length,t)]) (τ.put id ⟨b.t,b.cs.set off (.sl l)⟩) | some .slz => τ.lock ≤ id ∧ K (eo fr d (.sla tk.length [])) (tk ++ [some (0,0)]) (τ.put id ⟨b.t,b.cs.set off (.sl [])⟩) | _ => False)
 | none => False
def tkK (x : TV) (d : Option Nat) (K : ap) (fr : TF) (tk : TK) (τ : TH) : Prop := match x with | .ptr id off => tkB (τ.at id) id off d K fr tk τ | _ => False
def tkC (t : TypeId) (cs : List TV) (id off : Nat) (v : Option TV) (d : Option Nat) (K : ap) (fr : TF) (tk : TK) (τ : TH) : Prop := match v with | some (.slo u l) => τ.lock ≤ id ∧ K (eo fr d (.sla tk.length l)) (tk ++ [some (l.length,u)]) (τ.put id ⟨t,cs.set off (.sl l)⟩) | some .slz => τ.lock ≤ id ∧ K (eo fr d (.sla tk.length [])) (tk ++ [some (0,0)]) (τ.put id ⟨t,cs.set off (.sl [])⟩) | _ => False
theorem zbky (x : Operand) : tG Γ dr (.load1 x) 2 d K fr tk τ = tkK (tO fr x) d K fr tk τ := by
 simp only [tG,tOp,tkK,if_true]
 cases tO fr x with
 | ptr id off =>
  simp only [tkB]
  cases τ.at id with
  | none => rfl
  | some b =>
   simp only [Option.bind_some]
   cases hq : b.cs[off]? with
   | none => rfl
   | some v =>
    cases v with
    | slo t l => by_cases h : τ.lock ≤ id <;> simp [h,opK]
    | slz => by_cases h : τ.lock ≤ id <;> simp [h,opK]
    | _ => rfl
 | _ => rfl
theorem zbel (id off : Nat) : tkK (.ptr id off) d K fr tk τ = tkB (τ.at id) id off d K fr tk τ := rfl
theorem zcmw (t : TypeId) (cs : List TV) (id off : Nat) : tkB (some ⟨t,cs⟩) id off d K fr tk τ = tkC t cs id off cs[off]? d K fr tk τ := rfl
theorem zb3w (t : TypeId) (cs : List TV) (id off : Nat) : tkC t cs id off (some .slz) d K fr tk τ = (τ.lock ≤ id ∧ K (eo fr d (.sla tk.length [])) (tk ++ [some (0,0)]) (τ.put id ⟨t,cs.set off (.sl [])⟩)) := rfl
theorem zb3v (t u : TypeId) (cs l : List TV) (id off : Nat) : tkC t cs id off (some (.slo u l)) d K fr tk τ = (τ.lock ≤ id ∧ K (eo fr d (.sla tk.length l)) (tk ++ [some (l.length,u)]) (τ.put id ⟨t,cs.set off (.sl l)⟩)) := rfl
def s2K (n : Nat) (a x : TV) (d : Option Nat) (K : ap) (fr : TF) (tk : TK) (τ : TH) : Prop := match a,x with
 | .ptr id off,.sla tok l => (match tk[tok]? with
  | some (some (k,t)) => (k = l.length ∧ n = 1) ∧ stB (τ.at id) id off [.slo t l] d K fr (tk.set tok none) τ
  | _ => False)
 | _,_ => False
def s2T (o : Option (Option (Nat × TypeId))) (n id off tok : Nat) (l : List TV) (d : Option Nat) (K : ap) (fr : TF) (tk : TK) (τ : TH) : Prop := match o with
 | some (some (k,t)) => (k = l.length ∧ n = 1) ∧ stB (τ.at id) id off [.slo t l] d K fr (tk.set tok none) τ
 | _ => False
theorem zb46 (n : Nat) (y x : Operand) : tG Γ dr (.store n y x) 2 d K fr tk τ = s2K n (tO fr y) (tO fr x) d K fr tk τ := by
 have e0 : pt (.store n y x) 2 fr τ = (fr,τ) := rfl
 simp only [tG,e0,tOp,s2K,if_true]
 cases tO fr y with
 | ptr id off =>
  cases tO fr x with
  | sla tok l =>
   simp only
   cases tk[tok]? with
   | none => rfl
   | some o =>
    cases o with
    | none => rfl
    | some p =>
     obtain ⟨k,t⟩ := p
     by_cases h : k = l.length ∧ n = 1
     · simp only [h,and_self,if_true,true_and,zbq0,stB]
       cases τ.at id with
       | none => rfl
       | some b =>
        simp only [Option.bind_some]
        by_cases hc : τ.lock ≤ id ∧ [TV.slo t l] ≠ [] ∧ off + [TV.slo t l].length ≤ b.cs.length ∧ ([TV.slo t l].all TV.one = true) ∧ ft (id + 1) [TV.slo t l] = true
        · rw [if_pos hc]; simp only [hc,ne_eq,not_false_eq_true,and_self,true_and]; rfl
        · rw [if_neg hc]; simp only [hc,false_and]; rfl
     · simp only [h,if_false,false_and]; rfl
  | _ => rfl
 | _ => rfl
theorem zbfv (n id off tok : Nat) (l : List TV) : s2K n (.ptr id off) (.sla tok l) d K fr tk τ = s2T (tk[tok]?) n id off tok l d K fr tk τ := rfl
theorem zcms (n id off tok k t : Nat) (l : List TV) : s2T (some (some (k,t))) n id off tok l d K fr tk τ = ((k = l.length ∧ n = 1) ∧ stB (τ.at id) id off [.slo t l] d K fr (tk.set tok none) τ) := rfl
def bsO (m : Nat) (t sz : Nat) (o : Option (List TV)) (d : Option Nat) (K : ap) (fr : TF) (tk : TK) (τ : TH) : Prop := match o with | some l => (if m = 1 then K (eo fr d (.slm τ.next 0 l.length sz)) tk (τ.push ⟨t,l.flatMap TV.cells⟩) else if m = 2 then (l ≠ [] ∧ l.length ≤ maxLen) ∧ K (eo fr d (.sla tk.length l)) (tk ++ [some (l.length,t)]) τ else K (eo fr d (.sl l)) tk τ) | none => False
theorem zcnh (t sz len : Nat) (zeros : List Value) (parts : List (Nat × Nat × Operand)) : tG Γ dr (.buildSl t sz len zeros parts) m d K fr tk τ = ((parts.length = len ∧ sz ≠ 0 ∧ zeros.length = len * sz) ∧ bsO m t sz (zbd9 sz 0 (parts.map fun p => (p.1,p.2.1,tO fr p.2.2))) d K fr tk τ) := by
 simp only [tG,tOp,bsO]
 by_cases h : parts.length = len ∧ sz ≠ 0 ∧ zeros.length = len * sz
 · rw [if_pos h]
   cases zbd9 sz 0 (parts.map fun p => (p.1,p.2.1,tO fr p.2.2)) with
   | none => exact propext ⟨False.elim,fun q => q.2⟩
   | some l =>
    simp only [Option.bind_some,and_iff_right h]
    by_cases h1 : m = 1
    · rw [if_pos h1,if_pos h1]; rfl
    · rw [if_neg h1,if_neg h1]
      by_cases h2 : m = 2
      · rw [if_pos h2,if_pos h2]
        by_cases h3 : l ≠ [] ∧ l.length ≤ maxLen
        · rw [if_pos h3]; exact propext ⟨fun q => ⟨h3,q⟩,fun q => q.2⟩
        · rw [if_neg h3]; exact propext ⟨False.elim,fun q => h3 q.1⟩
      · rw [if_neg h2,if_neg h2]; rfl
 · rw [if_neg h]; simp only [h,false_and]; rfl
theorem zbxf (t sz : Nat) (l : List TV) : bsO 0 t sz (some l) d K fr tk τ = K (eo fr d (.sl l)) tk τ := rfl
theorem zbxe (t sz : Nat) (l : List TV) : bsO 1 t sz (some l) d K fr tk τ = K (eo fr d (.slm τ.next 0 l.length sz)) tk (τ.push ⟨t,l.flatMap TV.cells⟩) := rfl
theorem zbxd (t sz : Nat) (l : List TV) : bsO 2 t sz (some l) d K fr tk τ = ((l ≠ [] ∧ l.length ≤ maxLen) ∧ K (eo fr d (.sla tk.length l)) (tk ++ [some (l.length,t)]) τ) := rfl
theorem zb8i (sz i : Nat) : zbd9 sz i [] = some [] := rfl
theorem zcah (sz i off n : Nat) (v : TV) (r : List (Nat × Nat × TV)) : zbd9 sz i ((off,n,v) :: r) = if off = i * sz ∧ n = sz ∧ v.canA.cells.length = sz ∧ v.canA.pure = true then (zbd9 sz (i + 1) r).map (v.canA :: ·) else none := rfl
def msK (mu : Bool) (t bytes : Nat) (zero : List Value) (l c : TV) (d : Option Nat) (K : ap) (fr : TF) (tk : TK) (τ : TH) : Prop := match l,c with
 | .int _ n,.int _ k => (0 ≤ n ∧ n ≤ k ∧ k * bytes ≤ 140737488355328 ∧ k ≤ 9223372036854775807 ∧ zero.length ≠ 0 ∧ (zero.all fun z => (ofS z).canS.pureS) = true) ∧
  (bif mu then K (eo fr d (.slm τ.next 0 n.toNat zero.length)) tk (τ.push ⟨t,((List.replicate n.toNat (zero.map fun z => (ofS z).put)).flatten)⟩) else K (eo fr d (.sl (List.replicate n.toNat (zbcd (zero.map fun z => (ofS z).canS))))) tk τ)
 | _,_ => False
theorem zcmz (t bytes : Nat) (zero : List Value) (l c : Operand) : tG Γ dr (.makeSl t bytes zero l c) 0 d K fr tk τ = msK false t bytes zero (tO fr l) (tO fr c) d K fr tk τ := by
 simp only [tG,tOp,msK]
 cases tO fr l with
 | int k1 n =>
  cases tO fr c with
  | int k2 k =>
   simp only
   by_cases h : 0 ≤ n ∧ n ≤ k ∧ k * bytes ≤ 140737488355328 ∧ k ≤ 9223372036854775807 ∧ zero.length ≠ 0 ∧ (zero.all fun z => (ofS z).canS.pureS) = true
   · rw [if_pos h]; simp only [h,ne_eq,not_false_eq_true,and_self,true_and]; rfl
   · rw [if_neg h]; simp only [h,false_and]; rfl
  | _ => rfl
 | _ => rfl
theorem zcm0 (t bytes : Nat) (zero : List Value) (l c : Operand) : tG Γ dr (.makeSl t bytes zero l c) 1 d K fr tk τ = msK true t bytes zero (tO fr l) (tO fr c) d K fr tk τ := by
 simp only [tG,tOp,msK]
 cases tO fr l with
 | int k1 n =>
  cases tO fr c with
  | int k2 k =>
   simp only
   by_cases h : 0 ≤ n ∧ n ≤ k ∧ k * bytes ≤ 140737488355328 ∧ k ≤ 9223372036854775807 ∧ zero.length ≠ 0 ∧ (zero.all fun z => (ofS z).canS.pureS) = true
   · rw [if_pos h]; simp only [h,ne_eq,not_false_eq_true,and_self,true_and]; rfl
   · rw [if_neg h]; simp only [h,false_and]; rfl
  | _ => rfl
 | _ => rfl
def msA (t bytes : Nat) (zero : List Value) (l c : TV) (d : Option Nat) (K : ap) (fr : TF) (tk : TK) (τ : TH) : Prop := match l,c with
 | .int _ n,.int _ k => (0 ≤ n ∧ n ≤ k ∧ k * bytes ≤ 140737488355328 ∧ k ≤ 9223372036854775807 ∧ zero.length ≠ 0 ∧ (zero.all fun z => (ofS z).canS.pureS) = true) ∧ (n = 0 ∧ zero.length = 1) ∧ K (eo fr d (.slb tk.length t)) (tk ++ [some (0,t)]) τ
 | _,_ => False
theorem zcm1 (t bytes : Nat) (zero : List Value) (l c : Operand) : tG Γ dr (.makeSl t bytes zero l c) 2 d K fr tk τ = msA t bytes zero (tO fr l) (tO fr c) d K fr tk τ := by
 simp only [tG,tOp,msA]
 cases tO fr l with
 | int k1 n =>
  cases tO fr c with
  | int k2 k =>
   simp only
   by_cases h : 0 ≤ n ∧ n ≤ k ∧ k * bytes ≤ 140737488355328 ∧ k ≤ 9223372036854775807 ∧ zero.length ≠ 0 ∧ (zero.all fun z => (ofS z).canS.pureS) = true
   · rw [if_pos h,if_neg (by decide),if_pos trivial]
     by_cases h2 : n = 0 ∧ zero.length = 1
     · rw [if_pos h2]; exact propext ⟨fun q => ⟨h,h2,q⟩,fun q => q.2.2⟩
     · rw [if_neg h2]; exact propext ⟨False.elim,fun q => h2 q.2.1⟩
   · rw [if_neg h]; simp only [h,false_and]; rfl
  | _ => rfl
 | _ => rfl
theorem zbwq (t bytes : Nat) (zero : List Value) (j1 j2 : IntKind) (n k : Int) : msA t bytes zero (.int j1 n) (.int j2 k) d K fr tk τ = ((0 ≤ n ∧ n ≤ k ∧ k * bytes ≤ 140737488355328 ∧ k ≤ 9223372036854775807 ∧ zero.length ≠ 0 ∧ (zero.all fun z => (ofS z).canS.pureS) = true) ∧ (n = 0 ∧ zero.length = 1) ∧ K (eo fr d (.slb tk.length t)) (tk ++ [some (0,t)]) τ) := rfl
theorem zbwp (mu : Bool) (t bytes : Nat) (zero : List Value) (j1 j2 : IntKind) (n k : Int) : msK mu t bytes zero (.int j1 n) (.int j2 k) d K fr tk τ = ((0 ≤ n ∧ n ≤ k ∧ k * bytes ≤ 140737488355328 ∧ k ≤ 9223372036854775807 ∧ zero.length ≠ 0 ∧ (zero.all fun z => (ofS z).canS.pureS) = true) ∧ (bif mu then K (eo fr d (.slm τ.next 0 n.toNat zero.length)) tk (τ.push ⟨t,((List.replicate n.toNat (zero.map fun z => (ofS z).put)).flatten)⟩) else K (eo fr d (.sl (List.replicate n.toNat (zbcd (zero.map fun z => (ofS z).canS))))) tk τ)) := rfl
def apK (t sz bytes : Nat) (s : TV) (o : Option (List TV)) (d : Option Nat) (K : ap) (fr : TF) (tk : TK) (τ : TH) : Prop := match o with
 | some xs => (match zbco t sz bytes s xs tk with | some (v,tk') => K (eo fr d v) tk' τ | none => False)
 | none => False
def apT (o : Option (Option (Nat × TypeId))) (t sz bytes tok : Nat) (l xs : List TV) (d : Option Nat) (K : ap) (fr : TF) (tk : TK) (τ : TH) : Prop := match o with
 | some (some (n,t')) => ((xs.all (fun e => e.cells.length == sz && e.pure) = true ∧ xs.length * bytes ≤ 140737488355328 ∧ xs.length ≤ maxLen) ∧ n = l.length ∧ (n = 0 ∨ t' = t) ∧ (l.all (fun e => e.cells.length == sz) = true) ∧ (l.length + xs.length) * bytes ≤ 140737488355328 ∧ l.length + xs.length ≤ maxLen) ∧
  K (eo fr d (.sla tok (l ++ xs))) (tk.set tok (some (l.length + xs.length,t))) τ
 | _ => False
theorem zb40 (t sz bytes : Nat) (s x : Operand) : tG Γ dr (.append t sz bytes s x) 0 d K fr tk τ = (sz ≠ 0 ∧ apK t sz bytes (tO fr s) (tO fr x).list d K fr tk τ) := by
 simp only [tG,tOp,apK]
 by_cases h : sz = 0
 · simp [h,opK]
 · simp only [h,if_false,ne_eq,not_false_eq_true,true_and]
   cases (tO fr x).list with
   | none => rfl
   | some xs =>
    simp only [Option.bind_some,show (0 : Nat) = 1 ↔ False from by decide,if_false]
    cases zbco t sz bytes (tO fr s) xs tk <;> rfl
def amK (t sz bytes : Nat) (s : TV) (o : Option (List TV)) (d : Option Nat) (K : ap) (fr : TF) (tk : TK) (τ : TH) : Prop := match o with
 | some xs => (match zbcn t sz bytes s xs τ with | some (v,τ') => K (eo fr d v) tk τ' | none => False)
 | none => False
def amO (b : Option Ob) (t sz bytes id n : Nat) (xs : List TV) (d : Option Nat) (K : ap) (fr : TF) (tk : TK) (τ : TH) : Prop := match b with
 | some b => (b.t = t ∧ b.cs.length = n * sz ∧ n ≠ 0 ∧ τ.lock ≤ id ∧ (n + xs.length) * bytes ≤ 140737488355328 ∧ n + xs.length ≤ maxLen) ∧ K (eo fr d (.slm τ.next 0 (n + xs.length) sz)) tk ((τ.put id ⟨t,[]⟩).push ⟨t,b.cs ++ xs.flatMap TV.cells⟩)
 | none => False
theorem zcne (t sz bytes : Nat) (s x : Operand) : tG Γ dr (.append t sz bytes s x) 1 d K fr tk τ = (sz ≠ 0 ∧ amK t sz bytes (tO fr s) (tO fr x).list d K fr tk τ) := by
 simp only [tG,tOp,amK]
 by_cases h : sz = 0
 · simp [h,opK]
 · simp only [h,if_false,ne_eq,not_false_eq_true,true_and]
   cases (tO fr x).list with
   | none => rfl
   | some xs =>
    simp only [Option.bind_some,if_true]
    cases zbcn t sz bytes (tO fr s) xs τ <;> rfl
theorem zbkd (t sz bytes : Nat) (xs : List TV) : amK t sz bytes .slz (some xs) d K fr tk τ = ((xs ≠ [] ∧ xs.all (fun e => e.cells.length == sz && e.pure) = true) ∧ (xs.length * bytes ≤ 140737488355328 ∧ xs.length ≤ maxLen) ∧ K (eo fr d (.slm τ.next 0 xs.length sz)) tk (τ.push ⟨t,xs.flatMap TV.cells⟩)) := by
 simp only [amK,zbcn]
 by_cases h : xs ≠ [] ∧ xs.all (fun e => e.cells.length == sz && e.pure) = true
 · rw [if_pos h]
   by_cases h2 : xs.length * bytes ≤ 140737488355328 ∧ xs.length ≤ maxLen
   · rw [if_pos h2]; exact propext ⟨fun q => ⟨h,h2,q⟩,fun q => q.2.2⟩
   · rw [if_neg h2]; exact propext ⟨False.elim,fun q => h2 q.2.1⟩
 · rw [if_neg h]; exact propext ⟨False.elim,fun q => h q.1⟩
theorem zbke (t sz bytes id n : Nat) (xs : List TV) : amK t sz bytes (.slm id 0 n sz) (some xs) d K fr tk τ = ((xs ≠ [] ∧ xs.all (fun e => e.cells.length == sz && e.pure) = true) ∧ amO (τ.at id) t sz bytes id n xs d K fr tk τ) := by
 simp only [amK,zbcn,amO]
 by_cases h : xs ≠ [] ∧ xs.all (fun e => e.cells.length == sz && e.pure) = true
 · rw [if_pos h]
   cases τ.at id with
   | none => exact propext ⟨False.elim,fun q => q.2⟩
   | some b =>
    simp only [Option.bind_some,true_and]
    by_cases h2 : b.t = t ∧ b.cs.length = n * sz ∧ n ≠ 0 ∧ τ.lock ≤ id ∧ (n + xs.length) * bytes ≤ 140737488355328 ∧ n + xs.length ≤ maxLen
    · rw [if_pos h2]; exact propext ⟨fun q => ⟨h,h2,q⟩,fun q => q.2.2⟩
    · rw [if_neg h2]; exact propext ⟨False.elim,fun q => h2 q.2.1⟩
 · rw [if_neg h]; exact propext ⟨False.elim,fun q => h q.1⟩
theorem zb48 (t u sz bytes id n : Nat) (cs xs : List TV) : amO (some ⟨u,cs⟩) t sz bytes id n xs d K fr tk τ = ((u = t ∧ cs.length = n * sz ∧ n ≠ 0 ∧ τ.lock ≤ id ∧ (n + xs.length) * bytes ≤ 140737488355328 ∧ n + xs.length ≤ maxLen) ∧ K (eo fr d (.slm τ.next 0 (n + xs.length) sz)) tk ((τ.put id ⟨t,[]⟩).push ⟨t,cs ++ xs.flatMap TV.cells⟩)) := rfl
def atK (t sz bytes : Nat) (s : TV) (o : Option (List TV)) (d : Option Nat) (K : ap) (fr : TF) (tk : TK) (τ : TH) : Prop := match o with
 | some xs => (match zbe3 t sz bytes s xs τ with | some (v,τ') => K (eo fr d v) tk τ' | none => False)
 | none => False
def atO (b : Option Ob) (t sz bytes id n : Nat) (xs : List TV) (d : Option Nat) (K : ap) (fr : TF) (tk : TK) (τ : TH) : Prop := match b with
 | some b => (b.t = t ∧ n * sz ≤ b.cs.length ∧ b.cs ≠ [] ∧ τ.lock ≤ id ∧ (n + xs.length) * bytes ≤ 140737488355328 ∧ n + xs.length ≤ maxLen) ∧ K (eo fr d (.slm τ.next 0 (n + xs.length) sz)) tk ((τ.put id ⟨t,[]⟩).push ⟨t,b.cs.take (n * sz) ++ xs.flatMap TV.cells⟩)
 | none => False
theorem zcnf (t sz bytes : Nat) (s x : Operand) : tG Γ dr (.append t sz bytes s x) 4 d K fr tk τ = (sz ≠ 0 ∧ atK t sz bytes (tO fr s) (tO fr x).list d K fr tk τ) := by
 simp only [tG,tOp,atK]
 by_cases h : sz = 0
 · simp [h,opK]
 · simp only [h,if_false,ne_eq,not_false_eq_true,true_and]
   cases (tO fr x).list with
   | none => rfl
   | some xs =>
    simp only [Option.bind_some,if_true]
    cases zbe3 t sz bytes (tO fr s) xs τ <;> rfl
theorem zbj6 (t sz bytes id n : Nat) (xs : List TV) : atK t sz bytes (.slm id 0 n sz) (some xs) d K fr tk τ = ((xs ≠ [] ∧ xs.all (fun e => e.cells.length == sz && e.pure) = true) ∧ atO (τ.at id) t sz bytes id n xs d K fr tk τ) := by
 simp only [atK,zbe3,atO]
 by_cases h : xs ≠ [] ∧ xs.all (fun e => e.cells.length == sz && e.pure) = true
 · rw [if_pos h]
   cases τ.at id with
   | none => exact propext ⟨False.elim,fun q => q.2⟩
   | some b =>
    simp only [Option.bind_some,true_and]
    by_cases h2 : b.t = t ∧ n * sz ≤ b.cs.length ∧ b.cs ≠ [] ∧ τ.lock ≤ id ∧ (n + xs.length) * bytes ≤ 140737488355328 ∧ n + xs.length ≤ maxLen
    · rw [if_pos h2]; exact propext ⟨fun q => ⟨h,h2,q⟩,fun q => q.2.2⟩
    · rw [if_neg h2]; exact propext ⟨False.elim,fun q => h2 q.2.1⟩
 · rw [if_neg h]; exact propext ⟨False.elim,fun q => h q.1⟩
theorem zb5e (t u sz bytes id n : Nat) (cs xs : List TV) : atO (some ⟨u,cs⟩) t sz bytes id n xs d K fr tk τ = ((u = t ∧ n * sz ≤ cs.length ∧ cs ≠ [] ∧ τ.lock ≤ id ∧ (n + xs.length) * bytes ≤ 140737488355328 ∧ n + xs.length ≤ maxLen) ∧ K (eo fr d (.slm τ.next 0 (n + xs.length) sz)) tk ((τ.put id ⟨t,[]⟩).push ⟨t,cs.take (n * sz) ++ xs.flatMap TV.cells⟩)) := rfl
theorem zbka (t sz bytes : Nat) (xs : List TV) : apK t sz bytes .slz (some xs) d K fr tk τ = ((xs.all (fun e => e.cells.length == sz && e.pure) = true ∧ xs.length * bytes ≤ 140737488355328 ∧ xs.length ≤ maxLen) ∧ K (eo fr d (.sla tk.length xs)) (tk ++ [some (xs.length,t)]) τ) := by
 simp only [apK,zbco]
 by_cases h : xs.all (fun e => e.cells.length == sz && e.pure) = true ∧ xs.length * bytes ≤ 140737488355328 ∧ xs.length ≤ maxLen
 · rw [if_pos h]; simp only [h,and_self,true_and]
 · rw [if_neg h]; simp only [h,false_and]
theorem zbkc (t sz bytes tok : Nat) (l xs : List TV) : apK t sz bytes (.sla tok l) (some xs) d K fr tk τ = apT (tk[tok]?) t sz bytes tok l xs d K fr tk τ := by
 simp only [apK,zbco,apT]
 by_cases h : xs.all (fun e => e.cells.length == sz && e.pure) = true ∧ xs.length * bytes ≤ 140737488355328 ∧ xs.length ≤ maxLen
 · rw [if_pos h]
   cases tk[tok]? with
   | none => rfl
   | some o =>
    cases o with
    | none => rfl
    | some p =>
     obtain ⟨n,t'⟩ := p
     simp only
     by_cases h2 : n = l.length ∧ (n = 0 ∨ t' = t) ∧ (l.all (fun e => e.cells.length == sz) = true) ∧ (l.length + xs.length) * bytes ≤ 140737488355328 ∧ l.length + xs.length ≤ maxLen
     · rw [if_pos h2]; exact propext ⟨fun q => ⟨⟨h,h2⟩,q⟩,fun q => q.2⟩
     · rw [if_neg h2]; simp only [h2,and_false,false_and]
 · rw [if_neg h]
   cases tk[tok]? with
   | none => rfl
   | some o =>
    cases o with
    | none => rfl
    | some p => simp only [h,false_and]
theorem zb5a (n t' t sz bytes tok : Nat) (l xs : List TV) : apT (some (some (n,t'))) t sz bytes tok l xs d K fr tk τ = (((xs.all (fun e => e.cells.length == sz && e.pure) = true ∧ xs.length * bytes ≤ 140737488355328 ∧ xs.length ≤ maxLen) ∧ n = l.length ∧ (n = 0 ∨ t' = t) ∧ (l.all (fun e => e.cells.length == sz) = true) ∧ (l.length + xs.length) * bytes ≤ 140737488355328 ∧ l.length + xs.length ≤ maxLen) ∧ K (eo fr d (.sla tok (l ++ xs))) (tk.set tok (some (l.length + xs.length,t))) τ) := rfl
def apB (o : Option (Option (Nat × TypeId))) (t sz bytes tok t0 : Nat) (xs : List TV) (d : Option Nat) (K : ap) (fr : TF) (tk : TK) (τ : TH) : Prop := match o with
 | some (some (n,t')) => ((xs.all (fun e => e.cells.length == sz && e.pure) = true ∧ xs.length * bytes ≤ 140737488355328 ∧ xs.length ≤ maxLen) ∧ n = 0 ∧ t0 = t ∧ sz = 1 ∧ xs ≠ []) ∧
  K (eo fr d (.sla tok xs)) (tk.set tok (some (xs.length,t))) τ
 | _ => False
theorem zbkb (t sz bytes tok t0 : Nat) (xs : List TV) : apK t sz bytes (.slb tok t0) (some xs) d K fr tk τ = apB (tk[tok]?) t sz bytes tok t0 xs d K fr tk τ := by
 simp only [apK,zbco,apB]
 by_cases h : xs.all (fun e => e.cells.length == sz && e.pure) = true ∧ xs.length * bytes ≤ 140737488355328 ∧ xs.length ≤ maxLen
 · rw [if_pos h]
   cases tk[tok]? with
   | none => rfl
   | some o =>
    cases o with
    | none => rfl
    | some p =>
     obtain ⟨n,t'⟩ := p
     simp only
     by_cases h2 : n = 0 ∧ t0 = t ∧ sz = 1 ∧ xs ≠ []
     · rw [if_pos h2]; exact propext ⟨fun q => ⟨⟨h,h2⟩,q⟩,fun q => q.2⟩
     · rw [if_neg h2]; simp only [h2,and_false,false_and]
 · rw [if_neg h]
   cases tk[tok]? with
   | none => rfl
   | some o =>
    cases o with
    | none => rfl
    | some p => simp only [h,false_and]
theorem zb49 (n t' t sz bytes tok t0 : Nat) (xs : List TV) : apB (some (some (n,t'))) t sz bytes tok t0 xs d K fr tk τ = (((xs.all (fun e => e.cells.length == sz && e.pure) = true ∧ xs.length * bytes ≤ 140737488355328 ∧ xs.length ≤ maxLen) ∧ n = 0 ∧ t0 = t ∧ sz = 1 ∧ xs ≠ []) ∧ K (eo fr d (.sla tok xs)) (tk.set tok (some (xs.length,t))) τ) := rfl
def asK (t : Nat) (s x : TV) (d : Option Nat) (K : ap) (fr : TF) (tk : TK) (τ : TH) : Prop := match x with | .str b => apK t 1 1 s (some (ew b)) d K fr tk τ | _ => False
theorem zcng (t : Nat) (s x : Operand) : tG Γ dr (.appendS t s x) m d K fr tk τ = asK t (tO fr s) (tO fr x) d K fr tk τ := by
 simp only [tG,tOp,asK,apK]
 cases tO fr x with
 | str b => simp only; cases zbco t 1 1 (tO fr s) (ew b) tk <;> rfl
 | _ => rfl
theorem zbxh (t : Nat) (s : TV) (b : ByteArray) : asK t s (.str b) d K fr tk τ = apK t 1 1 s (some (ew b)) d K fr tk τ := rfl
def tbK (mu : Bool) (t : Nat) (x : TV) (d : Option Nat) (K : ap) (fr : TF) (tk : TK) (τ : TH) : Prop := match x with | .str s => (bif mu then K (eo fr d (.slm τ.next 0 s.size 1)) tk (τ.push ⟨t,ew s⟩) else K (eo fr d (.sl (ew s))) tk τ) | _ => False
theorem zb7x (t : Nat) (x : Operand) : tG Γ dr (.toBytes t x) 0 d K fr tk τ = tbK false t (tO fr x) d K fr tk τ := by
 simp only [tG,tOp,tbK]
 cases tO fr x <;> rfl
theorem zb7y (t : Nat) (x : Operand) : tG Γ dr (.toBytes t x) 1 d K fr tk τ = tbK true t (tO fr x) d K fr tk τ := by
 simp only [tG,tOp,tbK]
 cases tO fr x <;> rfl
def tbA (t : Nat) (x : TV) (d : Option Nat) (K : ap) (fr : TF) (tk : TK) (τ : TH) : Prop := match x with | .str s => K (eo fr d (if s.size = 0 then .slb tk.length t else .sla tk.length (ew s))) (tk ++ [some (s.size,t)]) τ | _ => False
theorem zb7z (t : Nat) (x : Operand) : tG Γ dr (.toBytes t x) 2 d K fr tk τ = tbA t (tO fr x) d K fr tk τ := by
 simp only [tG,tOp,tbA]
 cases tO fr x <;> rfl
theorem zbv1 (t : Nat) (s : ByteArray) : tbA t (.str s) d K fr tk τ = K (eo fr d (if s.size = 0 then .slb tk.length t else .sla tk.length (ew s))) (tk ++ [some (s.size,t)]) τ := rfl
theorem zbv0 (mu : Bool) (t : Nat) (s : ByteArray) : tbK mu t (.str s) d K fr tk τ = (bif mu then K (eo fr d (.slm τ.next 0 s.size 1)) tk (τ.push ⟨t,ew s⟩) else K (eo fr d (.sl (ew s))) tk τ) := rfl
theorem zbxq (t : Nat) : tO fr (.tmp t) = lkp fr t := rfl
theorem zbqj (k : IntKind) (n : Int) : tO fr (.const (.int k n)) = .int k n := rfl
theorem zbku (c : Bool) : tO fr (.const (.bool c)) = .bool c := rfl
theorem zbqi (s : ByteArray) : tO fr (.const (.string s)) = .str s := rfl
theorem zbkq : tO fr (.const (.pointer none)) = .nilP := rfl
theorem zbkp : tO fr (.const (.slice none 0 0)) = .slz := rfl
theorem zbkr : tO fr (.const (.map none)) = .nilM := rfl
theorem zbkt : tO fr (.const .nilFunc) = .nilF := rfl
theorem zbks : tO fr (.const .nilIface) = .nilI := rfl
theorem zbqh (f : FuncId) : tO fr (.func f) = .func f [] [] := rfl
theorem zbqk (cs : List Value) : tO fr (.const (.agg cs.toArray)) = .agg (cs.map ofS) := rfl
theorem zbhx (k : IntKind) (n : Int) : ofS (.int k n) = .int k n := rfl
theorem zcj8 (c : Bool) : ofS (.bool c) = .bool c := rfl
theorem zbhw (s : ByteArray) : ofS (.string s) = .str s := rfl
theorem zckc : ofS (.pointer none) = .nilP := rfl
theorem zckd : ofS (.slice none 0 0) = .slz := rfl
theorem zckb : ofS (.map none) = .nilM := rfl
theorem zcj9 : ofS .nilFunc = .nilF := rfl
theorem zcka : ofS .nilIface = .nilI := rfl
theorem zbip (t : Nat) (v : TV) (l : TF) : lkp ((t,v) :: l) t = v := by simp [lkp]
theorem zcjv (t k : Nat) (v : TV) (l : TF) (h : (t = k) = False) : lkp ((k,v) :: l) t = lkp l t := by simp [lkp,h]
theorem zb6o (t : Nat) (v : TV) : eo fr (some t) v = (t,v) :: fr := rfl
theorem zb6n (v : TV) : eo fr none v = fr := rfl
theorem zboq : sel lv fr = lv.map fun t => (t,lkp fr t) := rfl
theorem zb5d (k : Nat) : zblj k [] = [] := rfl
theorem zcm5 (k : Nat) (v : TV) (l : List TV) : zblj k (v :: l) = (k,v) :: zblj (k + 1) l := rfl
end
theorem zb9a   : TV.cells  TV.undef = [TV.undef ] := rfl
theorem zb7e  (b : Bool) : TV.cells  (TV.bool b) = [TV.bool b] := rfl
theorem zcnr  (k : IntKind) (n : Int) : TV.cells  (TV.int k n) = [TV.int k n] := rfl
theorem zcny  (s : ByteArray) : TV.cells  (TV.str s) = [TV.str s] := rfl
theorem zb7j   : TV.cells  TV.nilP = [TV.nilP ] := rfl
theorem zcns  (id off : Nat) : TV.cells  (TV.ptr id off) = [TV.ptr id off] := rfl
theorem zb7k  (cs : List TV) (off : Nat) : TV.cells  (TV.rptr cs off) = [TV.rptr cs off] := rfl
theorem zcnx   : TV.cells  TV.slz = [TV.slz ] := rfl
theorem zcjx  (l : List TV) : TV.cells  (TV.sl l) = [TV.sl l] := rfl
theorem zcnt  (k : Nat) (l : List TV) : TV.cells  (TV.sla k l) = [TV.sla k l] := rfl
theorem zcnu  (k : Nat) (t : TypeId) : TV.cells  (TV.slb k t) = [TV.slb k t] := rfl
theorem zcnw  (t : TypeId) (l : List TV) : TV.cells  (TV.slo t l) = [TV.slo t l] := rfl
theorem zcnv  (id off n sz : Nat) : TV.cells  (TV.slm id off n sz) = [TV.slm id off n sz] := rfl
theorem zb7i   : TV.cells  TV.nilM = [TV.nilM ] := rfl
theorem zb7g   : TV.cells  TV.nilF = [TV.nilF ] := rfl
theorem zb7f  (f : FuncId) (a b : List TV) : TV.cells  (TV.func f a b) = [TV.func f a b] := rfl
theorem zb7h   : TV.cells  TV.nilI = [TV.nilI ] := rfl
theorem zcnq  (cs : List TV) : TV.cells  (TV.agg cs) = cs := rfl
theorem zcnz  (cs : List TV) : TV.cells  (TV.tup cs) = [TV.tup cs] := rfl
theorem zcpk   : TV.one  TV.undef = false := rfl
theorem zcke  (b : Bool) : TV.one  (TV.bool b) = true := rfl
theorem zbhn  (k : IntKind) (n : Int) : TV.one  (TV.int k n) = true := rfl
theorem zbhg  (s : ByteArray) : TV.one  (TV.str s) = true := rfl
theorem zckj   : TV.one  TV.nilP = true := rfl
theorem zbhm  (id off : Nat) : TV.one  (TV.ptr id off) = true := rfl
theorem zckk  (cs : List TV) (off : Nat) : TV.one  (TV.rptr cs off) = false := rfl
theorem zbhh   : TV.one  TV.slz = true := rfl
theorem zbpb  (l : List TV) : TV.one  (TV.sl l) = true := rfl
theorem zbhl  (k : Nat) (l : List TV) : TV.one  (TV.sla k l) = true := rfl
theorem zbhk  (k : Nat) (t : TypeId) : TV.one  (TV.slb k t) = true := rfl
theorem zbhi  (t : TypeId) (l : List TV) : TV.one  (TV.slo t l) = true := rfl
theorem zbhj  (id off n sz : Nat) : TV.one  (TV.slm id off n sz) = true := rfl
theorem zcki   : TV.one  TV.nilM = true := rfl
theorem zckg   : TV.one  TV.nilF = true := rfl
theorem zckf  (f : FuncId) (a b : List TV) : TV.one  (TV.func f a b) = true := rfl
theorem zckh   : TV.one  TV.nilI = true := rfl
theorem zbho  (cs : List TV) : TV.one  (TV.agg cs) = false := rfl
theorem zbhf  (cs : List TV) : TV.one  (TV.tup cs) = false := rfl
theorem zb92   : TV.known  TV.undef = false := rfl
theorem zb7t  (b : Bool) : TV.known  (TV.bool b) = true := rfl
theorem zcof  (k : IntKind) (n : Int) : TV.known  (TV.int k n) = true := rfl
theorem zcom  (s : ByteArray) : TV.known  (TV.str s) = true := rfl
theorem zb8v   : TV.known  TV.nilP = true := rfl
theorem zcog  (id off : Nat) : TV.known  (TV.ptr id off) = true := rfl
theorem zb8w  (cs : List TV) (off : Nat) : TV.known  (TV.rptr cs off) = true := rfl
theorem zcol   : TV.known  TV.slz = true := rfl
theorem zcjl  (l : List TV) : TV.known  (TV.sl l) = true := rfl
theorem zcoh  (k : Nat) (l : List TV) : TV.known  (TV.sla k l) = true := rfl
theorem zcoi  (k : Nat) (t : TypeId) : TV.known  (TV.slb k t) = true := rfl
theorem zcok  (t : TypeId) (l : List TV) : TV.known  (TV.slo t l) = true := rfl
theorem zcoj  (id off n sz : Nat) : TV.known  (TV.slm id off n sz) = true := rfl
theorem zb8u   : TV.known  TV.nilM = true := rfl
theorem zb8s   : TV.known  TV.nilF = true := rfl
theorem zb7u  (f : FuncId) (a b : List TV) : TV.known  (TV.func f a b) = true := rfl
theorem zb8t   : TV.known  TV.nilI = true := rfl
theorem zcoe  (cs : List TV) : TV.known  (TV.agg cs) = true := rfl
theorem zcon  (cs : List TV) : TV.known  (TV.tup cs) = true := rfl
theorem zb7b   : TV.canS  TV.undef = TV.undef  := rfl
theorem zcn5  (b : Bool) : TV.canS  (TV.bool b) = TV.bool b := rfl
theorem zb5m  (k : IntKind) (n : Int) : TV.canS  (TV.int k n) = TV.int k n := rfl
theorem zb5t  (s : ByteArray) : TV.canS  (TV.str s) = TV.str s := rfl
theorem zcoa   : TV.canS  TV.nilP = TV.nilP  := rfl
theorem zb5n  (id off : Nat) : TV.canS  (TV.ptr id off) = TV.ptr id off := rfl
theorem zcob  (cs : List TV) (off : Nat) : TV.canS  (TV.rptr cs off) = TV.rptr cs off := rfl
theorem zb5s   : TV.canS  TV.slz = .sl [] := rfl
theorem zbjv  (l : List TV) : TV.canS  (TV.sl l) = TV.sl l := rfl
theorem zb5o  (k : Nat) (l : List TV) : TV.canS  (TV.sla k l) = .sl l := rfl
theorem zb5p  (k : Nat) (t : TypeId) : TV.canS  (TV.slb k t) = .sl [] := rfl
theorem zb5r  (t : TypeId) (l : List TV) : TV.canS  (TV.slo t l) = TV.slo t l := rfl
theorem zb5q  (id off n sz : Nat) : TV.canS  (TV.slm id off n sz) = TV.slm id off n sz := rfl
theorem zcn9   : TV.canS  TV.nilM = TV.nilM  := rfl
theorem zcn7   : TV.canS  TV.nilF = TV.nilF  := rfl
theorem zcn6  (f : FuncId) (a b : List TV) : TV.canS  (TV.func f a b) = TV.func f a b := rfl
theorem zcn8   : TV.canS  TV.nilI = TV.nilI  := rfl
theorem zb5l  (cs : List TV) : TV.canS  (TV.agg cs) = TV.agg cs := rfl
theorem zb5u  (cs : List TV) : TV.canS  (TV.tup cs) = TV.tup cs := rfl
theorem zb73   : TV.canA  TV.undef = TV.undef  := rfl
theorem zcm9  (b : Bool) : TV.canA  (TV.bool b) = TV.bool b := rfl
theorem zb6b  (k : IntKind) (n : Int) : TV.canA  (TV.int k n) = TV.int k n := rfl
theorem zb5j  (s : ByteArray) : TV.canA  (TV.str s) = TV.str s := rfl
theorem zcn3   : TV.canA  TV.nilP = TV.nilP  := rfl
theorem zb6c  (id off : Nat) : TV.canA  (TV.ptr id off) = TV.ptr id off := rfl
theorem zcn4  (cs : List TV) (off : Nat) : TV.canA  (TV.rptr cs off) = TV.rptr cs off := rfl
theorem zb5i   : TV.canA  TV.slz = .sl [] := rfl
theorem zbjw  (l : List TV) : TV.canA  (TV.sl l) = TV.sl l := rfl
theorem zb6d  (k : Nat) (l : List TV) : TV.canA  (TV.sla k l) = .sl l := rfl
theorem zb6e  (k : Nat) (t : TypeId) : TV.canA  (TV.slb k t) = .sl [] := rfl
theorem zb5h  (t : TypeId) (l : List TV) : TV.canA  (TV.slo t l) = TV.slo t l := rfl
theorem zb5g  (id off n sz : Nat) : TV.canA  (TV.slm id off n sz) = TV.slm id off n sz := rfl
theorem zcnd   : TV.canA  TV.nilM = TV.nilM  := rfl
theorem zcnb   : TV.canA  TV.nilF = TV.nilF  := rfl
theorem zcna  (f : FuncId) (a b : List TV) : TV.canA  (TV.func f a b) = TV.func f a b := rfl
theorem zcnc   : TV.canA  TV.nilI = TV.nilI  := rfl
theorem zb6a  (cs : List TV) : TV.canA  (TV.agg cs) = .agg (cs.map TV.canS) := rfl
theorem zb5k  (cs : List TV) : TV.canA  (TV.tup cs) = TV.tup cs := rfl
theorem zb7c   : TV.canT  TV.undef = TV.undef  := rfl
theorem zcoc  (b : Bool) : TV.canT  (TV.bool b) = TV.bool b := rfl
theorem zb5w  (k : IntKind) (n : Int) : TV.canT  (TV.int k n) = TV.int k n := rfl
theorem zb53  (s : ByteArray) : TV.canT  (TV.str s) = TV.str s := rfl
theorem zcno   : TV.canT  TV.nilP = TV.nilP  := rfl
theorem zb5x  (id off : Nat) : TV.canT  (TV.ptr id off) = TV.ptr id off := rfl
theorem zcnp  (cs : List TV) (off : Nat) : TV.canT  (TV.rptr cs off) = TV.rptr cs off := rfl
theorem zb52   : TV.canT  TV.slz = .sl [] := rfl
theorem zbju  (l : List TV) : TV.canT  (TV.sl l) = TV.sl l := rfl
theorem zb5y  (k : Nat) (l : List TV) : TV.canT  (TV.sla k l) = .sl l := rfl
theorem zb5z  (k : Nat) (t : TypeId) : TV.canT  (TV.slb k t) = .sl [] := rfl
theorem zb51  (t : TypeId) (l : List TV) : TV.canT  (TV.slo t l) = TV.slo t l := rfl
theorem zb50  (id off n sz : Nat) : TV.canT  (TV.slm id off n sz) = TV.slm id off n sz := rfl
theorem zcnn   : TV.canT  TV.nilM = TV.nilM  := rfl
theorem zcnl   : TV.canT  TV.nilF = TV.nilF  := rfl
theorem zcnk  (f : FuncId) (a b : List TV) : TV.canT  (TV.func f a b) = TV.func f a b := rfl
theorem zcnm   : TV.canT  TV.nilI = TV.nilI  := rfl
theorem zb5v  (cs : List TV) : TV.canT  (TV.agg cs) = .agg (cs.map TV.canS) := rfl
theorem zb54  (cs : List TV) : TV.canT  (TV.tup cs) = .tup (cs.map TV.canA) := rfl
theorem zb75   : TV.part  TV.undef = TV.undef  := rfl
theorem zcpl  (b : Bool) : TV.part  (TV.bool b) = TV.bool b := rfl
theorem zckr  (k : IntKind) (n : Int) : TV.part  (TV.int k n) = TV.int k n := rfl
theorem zclw  (s : ByteArray) : TV.part  (TV.str s) = TV.str s := rfl
theorem zcpr   : TV.part  TV.nilP = TV.nilP  := rfl
theorem zcks  (id off : Nat) : TV.part  (TV.ptr id off) = TV.ptr id off := rfl
theorem zcps  (cs : List TV) (off : Nat) : TV.part  (TV.rptr cs off) = TV.rptr cs off := rfl
theorem zclv   : TV.part  TV.slz = TV.slz  := rfl
theorem zbg6  (l : List TV) : TV.part  (TV.sl l) = TV.sl l := rfl
theorem zclr  (k : Nat) (l : List TV) : TV.part  (TV.sla k l) = .sl l := rfl
theorem zcls  (k : Nat) (t : TypeId) : TV.part  (TV.slb k t) = .sl [] := rfl
theorem zclu  (t : TypeId) (l : List TV) : TV.part  (TV.slo t l) = TV.slo t l := rfl
theorem zclt  (id off n sz : Nat) : TV.part  (TV.slm id off n sz) = TV.slm id off n sz := rfl
theorem zcpq   : TV.part  TV.nilM = TV.nilM  := rfl
theorem zcpo   : TV.part  TV.nilF = TV.nilF  := rfl
theorem zcpn  (f : FuncId) (a b : List TV) : TV.part  (TV.func f a b) = TV.func f a b := rfl
theorem zcpp   : TV.part  TV.nilI = TV.nilI  := rfl
theorem zckq  (cs : List TV) : TV.part  (TV.agg cs) = TV.agg cs := rfl
theorem zclx  (cs : List TV) : TV.part  (TV.tup cs) = TV.tup cs := rfl
theorem zcpe   : TV.put  TV.undef = TV.undef  := rfl
theorem zclc  (b : Bool) : TV.put  (TV.bool b) = TV.bool b := rfl
theorem zbg0  (k : IntKind) (n : Int) : TV.put  (TV.int k n) = TV.int k n := rfl
theorem zbgt  (s : ByteArray) : TV.put  (TV.str s) = TV.str s := rfl
theorem zclh   : TV.put  TV.nilP = TV.nilP  := rfl
theorem zbgz  (id off : Nat) : TV.put  (TV.ptr id off) = TV.ptr id off := rfl
theorem zcli  (cs : List TV) (off : Nat) : TV.put  (TV.rptr cs off) = TV.rptr cs off := rfl
theorem zbgu   : TV.put  TV.slz = TV.slz  := rfl
theorem zbo5  (l : List TV) : TV.put  (TV.sl l) = TV.sl l := rfl
theorem zbgy  (k : Nat) (l : List TV) : TV.put  (TV.sla k l) = .sl l := rfl
theorem zbgx  (k : Nat) (t : TypeId) : TV.put  (TV.slb k t) = .sl [] := rfl
theorem zbgv  (t : TypeId) (l : List TV) : TV.put  (TV.slo t l) = TV.slo t l := rfl
theorem zbgw  (id off n sz : Nat) : TV.put  (TV.slm id off n sz) = TV.slm id off n sz := rfl
theorem zclg   : TV.put  TV.nilM = TV.nilM  := rfl
theorem zcle   : TV.put  TV.nilF = TV.nilF  := rfl
theorem zcld  (f : FuncId) (a b : List TV) : TV.put  (TV.func f a b) = TV.func f a b := rfl
theorem zclf   : TV.put  TV.nilI = TV.nilI  := rfl
theorem zbg1  (cs : List TV) : TV.put  (TV.agg cs) = TV.agg cs := rfl
theorem zbgs  (cs : List TV) : TV.put  (TV.tup cs) = TV.tup cs := rfl
theorem zclk   : TV.rd  TV.undef = TV.undef  := rfl
theorem zbgo  (b : Bool) : TV.rd  (TV.bool b) = TV.bool b := rfl
theorem zbo3  (k : IntKind) (n : Int) : TV.rd  (TV.int k n) = TV.int k n := rfl
theorem zbow  (s : ByteArray) : TV.rd  (TV.str s) = TV.str s := rfl
theorem zbgi   : TV.rd  TV.nilP = TV.nilP  := rfl
theorem zbo2  (id off : Nat) : TV.rd  (TV.ptr id off) = TV.ptr id off := rfl
theorem zbgh  (cs : List TV) (off : Nat) : TV.rd  (TV.rptr cs off) = TV.rptr cs off := rfl
theorem zbox   : TV.rd  TV.slz = TV.slz  := rfl
theorem zbwd  (l : List TV) : TV.rd  (TV.sl l) = TV.sl l := rfl
theorem zbo1  (k : Nat) (l : List TV) : TV.rd  (TV.sla k l) = TV.sla k l := rfl
theorem zbo0  (k : Nat) (t : TypeId) : TV.rd  (TV.slb k t) = TV.slb k t := rfl
theorem zboy  (t : TypeId) (l : List TV) : TV.rd  (TV.slo t l) = .sl l := rfl
theorem zboz  (id off n sz : Nat) : TV.rd  (TV.slm id off n sz) = TV.slm id off n sz := rfl
theorem zbgj   : TV.rd  TV.nilM = TV.nilM  := rfl
theorem zbgl   : TV.rd  TV.nilF = TV.nilF  := rfl
theorem zbgn  (f : FuncId) (a b : List TV) : TV.rd  (TV.func f a b) = TV.func f a b := rfl
theorem zbgk   : TV.rd  TV.nilI = TV.nilI  := rfl
theorem zbo4  (cs : List TV) : TV.rd  (TV.agg cs) = TV.agg cs := rfl
theorem zbov  (cs : List TV) : TV.rd  (TV.tup cs) = TV.tup cs := rfl
theorem zcjt   : TV.list  TV.slz = some [] := rfl
theorem zbiq  (l : List TV) : TV.list  (TV.sl l) = some l := rfl
theorem zcjs  (k : Nat) (l : List TV) : TV.list  (TV.sla k l) = some l := rfl
theorem zb9x   : TV.pureS  TV.undef = false := rfl
theorem zb76  (b : Bool) : TV.pureS  (TV.bool b) = true := rfl
theorem zcoz  (k : IntKind) (n : Int) : TV.pureS  (TV.int k n) = true := rfl
theorem zco6  (s : ByteArray) : TV.pureS  (TV.str s) = true := rfl
theorem zb8a   : TV.pureS  TV.nilP = true := rfl
theorem zco0  (id off : Nat) : TV.pureS  (TV.ptr id off) = false := rfl
theorem zb8b  (cs : List TV) (off : Nat) : TV.pureS  (TV.rptr cs off) = false := rfl
theorem zco5   : TV.pureS  TV.slz = false := rfl
theorem zcly  (l : List TV) : TV.pureS  (TV.sl l) = true := rfl
theorem zco1  (k : Nat) (l : List TV) : TV.pureS  (TV.sla k l) = false := rfl
theorem zco2  (k : Nat) (t : TypeId) : TV.pureS  (TV.slb k t) = false := rfl
theorem zco4  (t : TypeId) (l : List TV) : TV.pureS  (TV.slo t l) = false := rfl
theorem zco3  (id off n sz : Nat) : TV.pureS  (TV.slm id off n sz) = false := rfl
theorem zb79   : TV.pureS  TV.nilM = true := rfl
theorem zb77   : TV.pureS  TV.nilF = true := rfl
theorem zb78   : TV.pureS  TV.nilI = true := rfl
theorem zcoy  (cs : List TV) : TV.pureS  (TV.agg cs) = false := rfl
theorem zco7  (cs : List TV) : TV.pureS  (TV.tup cs) = false := rfl
theorem zb9w (f : FuncId) : TV.pureS (.func f [] []) = true := rfl
theorem zb8c   : TV.pure  TV.undef = false := rfl
theorem zco8  (b : Bool) : TV.pure  (TV.bool b) = true := rfl
theorem zck3  (k : IntKind) (n : Int) : TV.pure  (TV.int k n) = true := rfl
theorem zcla  (s : ByteArray) : TV.pure  (TV.str s) = true := rfl
theorem zcpc   : TV.pure  TV.nilP = true := rfl
theorem zck4  (id off : Nat) : TV.pure  (TV.ptr id off) = false := rfl
theorem zcpd  (cs : List TV) (off : Nat) : TV.pure  (TV.rptr cs off) = false := rfl
theorem zck9   : TV.pure  TV.slz = false := rfl
theorem zbg2  (l : List TV) : TV.pure  (TV.sl l) = true := rfl
theorem zck5  (k : Nat) (l : List TV) : TV.pure  (TV.sla k l) = false := rfl
theorem zck6  (k : Nat) (t : TypeId) : TV.pure  (TV.slb k t) = false := rfl
theorem zck8  (t : TypeId) (l : List TV) : TV.pure  (TV.slo t l) = false := rfl
theorem zck7  (id off n sz : Nat) : TV.pure  (TV.slm id off n sz) = false := rfl
theorem zcpb   : TV.pure  TV.nilM = true := rfl
theorem zco9   : TV.pure  TV.nilF = true := rfl
theorem zcpa   : TV.pure  TV.nilI = true := rfl
theorem zck2  (cs : List TV) : TV.pure  (TV.agg cs) = cs.all TV.pureS := rfl
theorem zclb  (cs : List TV) : TV.pure  (TV.tup cs) = false := rfl
theorem zcaf (n : Nat)  : TV.under n TV.undef = true := by simp [TV.under]
theorem zcku (n m : Nat)  : TV.lt n m TV.undef = true := by simp [TV.lt]
theorem zb8r (n : Nat) (b : Bool) : TV.under n (TV.bool b) = true := by simp [TV.under]
theorem zbih (n m : Nat) (b : Bool) : TV.lt n m (TV.bool b) = true := by simp [TV.lt]
theorem zb6r (n : Nat) (k : IntKind) (q : Int) : TV.under n (TV.int k q) = true := by simp [TV.under]
theorem zbps (n m : Nat) (k : IntKind) (q : Int) : TV.lt n m (TV.int k q) = true := by simp [TV.lt]
theorem zb6y (n : Nat) (s : ByteArray) : TV.under n (TV.str s) = true := by simp [TV.under]
theorem zbpl (n m : Nat) (s : ByteArray) : TV.lt n m (TV.str s) = true := by simp [TV.lt]
theorem zb86 (n : Nat)  : TV.under n TV.nilP = true := by simp [TV.under]
theorem zbia (n m : Nat)  : TV.lt n m TV.nilP = true := by simp [TV.lt]
theorem zb6s (n : Nat) (id off : Nat) : TV.under n (TV.ptr id off) = decide (id < n) := by simp [TV.under]
theorem zbpr (n m : Nat) (id off : Nat) : TV.lt n m (TV.ptr id off) = decide (id < n) := by simp [TV.lt]
theorem zb87 (n : Nat) (cs : List TV) (off : Nat) : TV.under n (TV.rptr cs off) = true := by simp [TV.under]
theorem zbh9 (n m : Nat) (cs : List TV) (off : Nat) : TV.lt n m (TV.rptr cs off) = true := by simp [TV.lt]
theorem zb6x (n : Nat)  : TV.under n TV.slz = true := by simp [TV.under]
theorem zbpm (n m : Nat)  : TV.lt n m TV.slz = true := by simp [TV.lt]
theorem zcmx (n : Nat) (l : List TV) : TV.under n (TV.sl l) = true := by simp [TV.under]
theorem zbwr (n m : Nat) (l : List TV) : TV.lt n m (TV.sl l) = true := by simp [TV.lt]
theorem zb6t (n : Nat) (k : Nat) (l : List TV) : TV.under n (TV.sla k l) = false := by simp [TV.under]
theorem zbpq (n m : Nat) (k : Nat) (l : List TV) : TV.lt n m (TV.sla k l) = decide (k < m) := by simp [TV.lt]
theorem zb6u (n : Nat) (k : Nat) (t : TypeId) : TV.under n (TV.slb k t) = false := by simp [TV.under]
theorem zbpp (n m : Nat) (k : Nat) (t : TypeId) : TV.lt n m (TV.slb k t) = decide (k < m) := by simp [TV.lt]
theorem zb6w (n : Nat) (t : TypeId) (l : List TV) : TV.under n (TV.slo t l) = true := by simp [TV.under]
theorem zbpn (n m : Nat) (t : TypeId) (l : List TV) : TV.lt n m (TV.slo t l) = true := by simp [TV.lt]
theorem zb6v (n : Nat) (id off q sz : Nat) : TV.under n (TV.slm id off q sz) = decide (id < n) := by simp [TV.under]
theorem zbpo (n m : Nat) (id off q sz : Nat) : TV.lt n m (TV.slm id off q sz) = decide (id < n) := by simp [TV.lt]
theorem zb85 (n : Nat)  : TV.under n TV.nilM = true := by simp [TV.under]
theorem zbib (n m : Nat)  : TV.lt n m TV.nilM = true := by simp [TV.lt]
theorem zb83 (n : Nat)  : TV.under n TV.nilF = true := by simp [TV.under]
theorem zbid (n m : Nat)  : TV.lt n m TV.nilF = true := by simp [TV.lt]
theorem zb82 (n : Nat) (f : FuncId) (a b : List TV) : TV.under n (TV.func f a b) = (ft n a && ft n b) := by simp [TV.under]
theorem zbig (n m : Nat) (f : FuncId) (a b : List TV) : TV.lt n m (TV.func f a b) = (ltL n m a && ltL n m b) := by simp [TV.lt]
theorem zb84 (n : Nat)  : TV.under n TV.nilI = true := by simp [TV.under]
theorem zbic (n m : Nat)  : TV.lt n m TV.nilI = true := by simp [TV.lt]
theorem zb6q (n : Nat) (cs : List TV) : TV.under n (TV.agg cs) = ft n cs := by simp [TV.under]
theorem zbpt (n m : Nat) (cs : List TV) : TV.lt n m (TV.agg cs) = ltL n m cs := by simp [TV.lt]
theorem zb6z (n : Nat) (cs : List TV) : TV.under n (TV.tup cs) = ft n cs := by simp [TV.under]
theorem zbpk (n m : Nat) (cs : List TV) : TV.lt n m (TV.tup cs) = ltL n m cs := by simp [TV.lt]
theorem zb8q (n : Nat) : ft n [] = true := by simp [ft]
theorem zcae (n : Nat) (v : TV) (l : List TV) : ft n (v :: l) = (v.under n && ft n l) := by simp [ft]
theorem zbii (n m : Nat) : ltL n m [] = true := by simp [ltL]
theorem zckt (n m : Nat) (v : TV) (l : List TV) : ltL n m (v :: l) = (v.lt n m && ltL n m l) := by simp [ltL]
theorem nk {Γ : FuncId → Option TG} {lv : List Nat} {a : TC} {Q : TEx → ap} {fr : TF} {tk : TK} {τ : TH} (h : ∀ LQ : TEx → ap,(∀ fr' tk' τ',LQ .normal fr' tk' τ' = zbp8 lv tk τ fr' tk' τ' (tW Γ (.loop lv a) Q)) → (LQ .ret = Q .ret) → (∀ id,LQ (.exit id) = Q (.exit id)) → tW Γ a LQ (sel lv fr) tk τ) : tW Γ (.loop lv a) Q fr tk τ := by
 rw [zbrw]
 exact h _ (fun fr' tk' τ' => zb3l Γ fr' tk tk' τ τ' a lv Q) rfl fun _ => rfl
def zbc9 : List (Nat × TG) → FuncId → Option TG
 | [],_ => none
 | (k,g) :: r,f => if f = k then some g else zbc9 r f
def zbug (P : Program) (l : List (Nat × TG)) : Prop := ∀ p ∈ l,match p.2 with
 | .code fn => ∃ H,wb P H p.1 = some (fn.n,fn.c.erase,fn.rs)
 | .prim g => ∀ args τ r τ',g args τ = some (r,τ') → zbrh P p.1 args τ r τ'
theorem zbsp {P : Program} : zbug P [] := fun p hp => by simp at hp
theorem bb {P : Program} {H : List (Nat × DH)} {f n : Nat} {c : TC} {rs : List R} {fz : Bool} (h : wb P H f = some (n,c.erase,rs)) {l : List (Nat × TG)} (k : zbug P l) : zbug P ((f,.code ⟨n,c,rs,fz⟩) :: l) := fun p hp => by
 rcases List.mem_cons.1 hp with rfl | hp
 · exact ⟨H,h⟩
 · exact k p hp
theorem zb0c {P : Program} {f : Nat} {g : List TV → TH → Option (TV × TH)} (h : ∀ args τ r τ',g args τ = some (r,τ') → zbrh P f args τ r τ') {l : List (Nat × TG)} (k : zbug P l) : zbug P ((f,.prim g) :: l) := fun p hp => by
 rcases List.mem_cons.1 hp with rfl | hp
 · exact h
 · exact k p hp
theorem zcou : ∀ {l : List (Nat × TG)} {f : Nat} {g : TG},zbc9 l f = some g → (f,g) ∈ l
 | [],_,_,h => by cases h
 | (k,g) :: r,f,g',h => by
  simp only [zbc9] at h
  split at h
  · rename_i e; injection h with h; subst e h; simp
  · exact List.mem_cons_of_mem _ (zcou h)
theorem zbmp {P : Program} {l : List (Nat × TG)} (h : zbug P l) : GOK P (zbc9 l) := fun f => by
 cases hq : zbc9 l f with
 | none => trivial
 | some g =>
  have := h _ (zcou hq)
  cases g with
  | code fn => exact this
  | prim g => exact this
section
variable (τ : TH) (b c : Ob) (id k n : Nat)
def zbs6 (o : Option Ob) (off : Nat) : Option TV := match o with | some b => (b.cs[off]?).map TV.rd | none => none
def zb38 (o : Option Ob) (off n : Nat) : Option (List TV) := match o with | some b => if off + n ≤ b.cs.length then some (((b.cs.drop off).take n).map TV.rd) else none | none => none
theorem zcmf (off : Nat) : zblo τ id off = zbs6 (τ.at id) off := by unfold zblo zbs6; cases τ.at id <;> rfl
theorem zbei (off : Nat) : zbbt τ id off n = zb38 (τ.at id) off n := by unfold zbbt zb38; cases τ.at id <;> rfl
theorem zb7d (t : TypeId) (cs : List TV) (off : Nat) : zbs6 (some ⟨t,cs⟩) off = (cs[off]?).map TV.rd := rfl
theorem zb60 (t : TypeId) (cs : List TV) (off : Nat) : zb38 (some ⟨t,cs⟩) off n = if off + n ≤ cs.length then some (((cs.drop off).take n).map TV.rd) else none := rfl
theorem zcm6 : (τ.push b).at τ.next = some b := zbu8
theorem zb72 (h : id = τ.next) : (τ.push b).at id = some b := by subst h; exact zbu8
theorem zcm7 (h : id < τ.next) : (τ.push b).at id = τ.at id := zq h
theorem ak : (τ.push b).next = τ.next + 1 := fg
theorem ag : (τ.put id b).next = τ.next := ax
theorem zbh4 : (τ.locked n).next = τ.next := rfl
theorem za4o : (τ.locked n).at id = τ.at id := rfl
theorem ay : (τ.push b).lock = τ.lock := rfl
theorem ah : (τ.put id b).lock = τ.lock := rfl
theorem zbin : (τ.cut n).lock = τ.lock := rfl
theorem zbim : (τ.locked n).lock = n := rfl
theorem zbxg (h : id < τ.next) : (τ.put id b).at id = some b := xg h
theorem zb5f (h : (k = id) = False) : (τ.put id b).at k = τ.at k := zt (by simpa using h)
theorem zbno : (τ.put id b).put id c = τ.put id c := by simp [TH.put]
theorem zcow (h : id = τ.next) : (τ.push b).put id c = τ.push c := by subst h; simp [TH.put,TH.push,TH.next,List.set_append_right]
theorem zcox (h : id < τ.next) : (τ.push b).put id c = (τ.put id c).push b := by simp only [TH.put,TH.push,TH.next] at *; rw [List.set_append_left _ _ h]
theorem zcjz (h : n ≤ τ.next) : (τ.push b).cut n = τ.cut n := by simp only [TH.cut,TH.push,TH.next] at *; rw [List.take_append_of_le_length h]
theorem jd (h : τ.next ≤ n) : τ.cut n = τ := zbx2 h
theorem zb7n : (τ.locked k).cut n = (τ.cut n).locked k := rfl
theorem zb9y : (τ.locked k).push b = (τ.push b).locked k := rfl
theorem zb8d : (τ.locked k).put id b = (τ.put id b).locked k := rfl
theorem zccv : (τ.locked k).locked n = τ.locked n := rfl
theorem zb93 : τ.locked τ.lock = τ := rfl
end
section
variable (k : IntKind) (x y : Int) (s u : ByteArray)
theorem zboh : a6 .add (.int k x) (.int k y) = some (.int k (k.wrap (x + y))) := by simp [a6,a8,za4p,ofS]
theorem zbn3 : a6 .sub (.int k x) (.int k y) = some (.int k (k.wrap (x - y))) := by simp [a6,a8,za4p,ofS]
theorem zbn9 : a6 .mul (.int k x) (.int k y) = some (.int k (k.wrap (x * y))) := by simp [a6,a8,za4p,ofS]
theorem zbog : a6 .and (.int k x) (.int k y) = some (.int k (k.wrap (BitVec.ofInt k.bits x &&& BitVec.ofInt k.bits y).toNat)) := by simp [a6,a8,za4p,ofS]
theorem zbvv : a6 .or (.int k x) (.int k y) = some (.int k (k.wrap (BitVec.ofInt k.bits x ||| BitVec.ofInt k.bits y).toNat)) := by simp [a6,a8,za4p,ofS]
theorem zbn2 : a6 .xor (.int k x) (.int k y) = some (.int k (k.wrap (BitVec.ofInt k.bits x ^^^ BitVec.ofInt k.bits y).toNat)) := by simp [a6,a8,za4p,ofS]
theorem zboa : a6 .lss (.int k x) (.int k y) = some (.bool (decide (x < y))) := by simp [a6,a8,za4p,ofS]
theorem zbob : a6 .leq (.int k x) (.int k y) = some (.bool (decide (x ≤ y))) := by simp [a6,a8,za4p,ofS]
theorem zboc : a6 .gtr (.int k x) (.int k y) = some (.bool (decide (y < x))) := by simp [a6,a8,za4p,ofS]
theorem zbod : a6 .geq (.int k x) (.int k y) = some (.bool (decide (y ≤ x))) := by simp [a6,a8,za4p,ofS]
theorem zboe : a6 .eql (.int k x) (.int k y) = some (.bool (decide (x = y))) := by simp [a6,a8,za4p,ofS]; rfl
theorem zbn8 : a6 .neq (.int k x) (.int k y) = some (.bool (decide (¬ x = y))) := by simp [a6,a8,za4p,ofS]; rfl
theorem zbn7 : a6 .quo (.int k x) (.int k y) = if y = 0 then none else some (.int k (k.wrap (x.tdiv y))) := by simp [a6,a8,za4p,ofS]; split <;> simp [ofS]
theorem zbn6 : a6 .rem (.int k x) (.int k y) = if y = 0 then none else some (.int k (x.tmod y)) := by simp [a6,a8,za4p,ofS]; split <;> simp [ofS]
theorem zbn5 (j : IntKind) : a6 .shl (.int k x) (.int j y) = if y < 0 then none else some (.int k (k.wrap (x * 2 ^ (Nat.min y.toNat k.bits)))) := by simp [a6,a8,zbqz,ofS]; split <;> simp [ofS]
theorem zbn4 (j : IntKind) : a6 .shr (.int k x) (.int j y) = if y < 0 then none else some (.int k (x.fdiv (2 ^ (Nat.min y.toNat k.bits)))) := by simp [a6,a8,zbqz,ofS]; split <;> simp [ofS]
theorem zbof : a6 .add (.str s) (.str u) = if 9223372036854775807 < ((s.size + u.size : Nat) : Int) then none else some (.str (s ++ u)) := by
 have e : IntKind.i64.max = 9223372036854775807 := by decide
 simp only [a6,zbfu,e]
 split
 · rfl
 · rfl
theorem zcaa {s u : ByteArray} : s.toList = u.toList ↔ s = u := by
 constructor
 · intro h
   rw [ByteArray.toList_eq,ByteArray.toList_eq] at h
   cases s; cases u; simp_all
 · rintro rfl; rfl
theorem zbe2 : a6 .eql (.str s) (.str u) = some (.bool (decide (s = u))) := by simp only [a6,zbfu,Option.map_some,ofS]; congr 2; by_cases h : s = u <;> simp [h,zcaa]
theorem zbe1 : a6 .neq (.str s) (.str u) = some (.bool (decide (¬ s = u))) := by simp only [a6,zbfu,Option.map_some,ofS]; congr 2; by_cases h : s = u <;> simp [h,zcaa]
theorem zbnt (b : Bool) : tun .not (.bool b) = some (.bool !b) := rfl
def zb4b (k : IntKind) (x : Int) : Int := k.wrap (BitVec.ofInt k.bits (if k.signed then -1 else k.max) ^^^ BitVec.ofInt k.bits x).toNat
theorem zbns : tun .xor (.int k x) = some (.int k (zb4b k x)) := rfl
theorem zbnu : tun .neg (.int k x) = some (.int k (k.wrap (0 - x))) := rfl
end
theorem zb91 (c : Prop) [Decidable c] (v : TV) (d : Option Nat) (K : ap) (fr : TF) (tk : TK) (τ : TH) : pK (if c then none else some v) d K fr tk τ = (¬ c ∧ K (eo fr d v) tk τ) := by unfold pK; by_cases h : c <;> simp [h]
theorem zbie {g n k : Nat} (h : g < n) : (g < n + k) = True := by simp; omega
theorem zbiv {g n k : Nat} (h : g ≤ n) : (g ≤ n + k) = True := by simp; omega
theorem zbh8 (n k : Nat) : (n < n + k) = (0 < k) := by simp
theorem zbif (n j k : Nat) : (n + j < n + k) = (j < k) := by simp
theorem zbiu (n k : Nat) : (n ≤ n + k) = True := by simp
theorem zbiw (n j k : Nat) : (n + j ≤ n + k) = (j ≤ k) := by simp
theorem zbjo (n j k : Nat) : (n + j = n + k) = (j = k) := by simp
theorem zb9d (n k : Nat) : (n = n + k) = (k = 0) := by simp
theorem zcap (n k : Nat) : (n + k = n) = (k = 0) := by simp
theorem zcat (n : Nat) : (n < n) = False := by simp
theorem zbki (n j k : Nat) : n + j + k = n + (j + k) := Nat.add_assoc n j k
theorem zclz (i o j p : Nat) : TV.same (.ptr i o) (.ptr j p) = (i == j && o == p) := rfl
theorem zcmt (k j : IntKind) (n m : Int) : TV.same (.int k n) (.int j m) = (decide (k = j) && decide (n = m)) := rfl
theorem zb63 (a b : Bool) : TV.same (.bool a) (.bool b) = (a == b) := rfl
theorem zcl0 (a b : ByteArray) : TV.same (.str a) (.str b) = decide (a = b) := rfl
theorem zb64 (f g : FuncId) (a b c d : List TV) : TV.same (.func f a b) (.func g c d) = (decide (f = g) && (zbk9 a c && zbk9 b d)) := rfl
theorem zb62 : zbk9 [] [] = true := rfl
theorem zb8h (v w : TV) (r s : List TV) : zbk9 (v :: r) (w :: s) = (v.same w && zbk9 r s) := rfl
theorem zcpi (fr : TF) (τ : TH) (d : Nat) (i : I) (g : Option (Nat × Bool)) : zbx8 ⟨some d,i,g⟩ fr τ = zbzv (zbuq i fr τ) (lkp fr d) := rfl
theorem zcpf (fr : TF) (τ : TH) (x : Operand) : zbuq (.load1 x) fr τ = rdO (tO fr x) τ := rfl
theorem zbgp (τ : TH) (id off : Nat) : rdO (.ptr id off) τ = rdB (τ.at id) off := rfl
theorem zclj (t : TypeId) (cs : List TV) (off : Nat) : rdB (some ⟨t,cs⟩) off = (cs[off]?).map TV.rd := rfl
theorem zb61 (v w : TV) : zbzv (some v) w = v.same w := rfl
theorem zcj1 : decide True = true := rfl
theorem zcj0 : decide False = false := rfl
theorem TT0 : type_of% (ai (ai (ai (ai @zbqc @zbqd) (ai @zbxo @zbxp)) (ai (ai @zb47 @zcma) (ai @zb6h @zbe4))) (ai (ai (ai @zcmd @zbe5) (ai @zcmb @zcmc)) (ai (ai @zbkm @zbxn) (ai @zbqe @zbko)))) := (ai (ai (ai (ai @zbqc @zbqd) (ai @zbxo @zbxp)) (ai (ai @zb47 @zcma) (ai @zb6h @zbe4))) (ai (ai (ai @zcmd @zbe5) (ai @zcmb @zcmc)) (ai (ai @zbkm @zbxn) (ai @zbqe @zbko))))
theorem TT1 : type_of% (ai (ai (ai (ai @zbkn @zbj0) (ai @zben @zbem)) (ai (ai @zbeo @zb57) (ai @zb56 @zcm8))) (ai (ai (ai @zb58 @zb3l) (ai @zbij @zbik)) (ai (ai @zbj5 @zbos) (ai @zbot @zbf3)))) := (ai (ai (ai (ai @zbkn @zbj0) (ai @zben @zbem)) (ai (ai @zbeo @zb57) (ai @zb56 @zcm8))) (ai (ai (ai @zb58 @zb3l) (ai @zbij @zbik)) (ai (ai @zbj5 @zbos) (ai @zbot @zbf3))))
theorem TT2 : type_of% (ai (ai (ai (ai @zbf4 @zcje) (ai @zcmr @zbnw)) (ai (ai @zbnx @zbnv) (ai @zcbt @zcdd))) (ai (ai (ai @zb7m @zcac) (ai @zb8n @zb8o)) (ai (ai @zbgr @zbgq) (ai @zbok @zbfa)))) := (ai (ai (ai (ai @zbf4 @zcje) (ai @zcmr @zbnw)) (ai (ai @zbnx @zbnv) (ai @zcbt @zcdd))) (ai (ai (ai @zb7m @zcac) (ai @zb8n @zb8o)) (ai (ai @zbgr @zbgq) (ai @zbok @zbfa))))
theorem TT3 : type_of% (ai (ai (ai (ai @zbe9 @zbfc) (ai @zcl6 @zcl7)) (ai (ai @zbw2 @zbw5) (ai @zbw3 @zbw4))) (ai (ai (ai @zbp0 @zbqt) (ai @zbk4 @zcmi)) (ai (ai @zb6k @zb66) (ai @zbev @zcmv)))) := (ai (ai (ai (ai @zbe9 @zbfc) (ai @zcl6 @zcl7)) (ai (ai @zbw2 @zbw5) (ai @zbw3 @zbw4))) (ai (ai (ai @zbp0 @zbqt) (ai @zbk4 @zcmi)) (ai (ai @zb6k @zb66) (ai @zbev @zcmv))))
theorem TT4 : type_of% (ai (ai (ai (ai @zb6l @zbeu) (ai @zcmj @zbeq)) (ai (ai @zcmu @zbn0) (ai @zbew @zbet))) (ai (ai (ai @zcmk @zber) (ai @zcml @zbes)) (ai (ai @zbk3 @zbk2) (ai @zb41 @zbjq)))) := (ai (ai (ai (ai @zb6l @zbeu) (ai @zcmj @zbeq)) (ai (ai @zcmu @zbn0) (ai @zbew @zbet))) (ai (ai (ai @zcmk @zber) (ai @zcml @zbes)) (ai (ai @zbk3 @zbk2) (ai @zb41 @zbjq))))
theorem TT5 : type_of% (ai (ai (ai (ai @zbg7 @zbo7) (ai @zckl @zb3o)) (ai (ai @zbxs @zbqn) (ai @zbqo @zck0))) (ai (ai (ai @zbqm @zbg5) (ai @zbkz @zbiy)) (ai (ai @zcjm @zbkx) (ai @zbix @zcjn)))) := (ai (ai (ai (ai @zbg7 @zbo7) (ai @zckl @zb3o)) (ai (ai @zbxs @zbqn) (ai @zbqo @zck0))) (ai (ai (ai @zbqm @zbg5) (ai @zbkz @zbiy)) (ai (ai @zcjm @zbkx) (ai @zbix @zcjn))))
theorem TT6 : type_of% (ai (ai (ai (ai @zb45 @zckz) (ai @zcpj @zcos)) (ai (ai @zbxy @zbxw) (ai @zbp5 @zbk0))) (ai (ai (ai @zb98 @zb8k) (ai @zb99 @zb8m)) (ai (ai @zb6m @zb8l) (ai @zb97 @zcak)))) := (ai (ai (ai (ai @zb45 @zckz) (ai @zcpj @zcos)) (ai (ai @zbxy @zbxw) (ai @zbp5 @zbk0))) (ai (ai (ai @zb98 @zb8k) (ai @zb99 @zb8m)) (ai (ai @zb6m @zb8l) (ai @zb97 @zcak))))
theorem TT7 : type_of% (ai (ai (ai (ai @zcaj @zcqr) (ai @zbqs @zbjt)) (ai (ai @zbk1 @zcjy) (ai @zb81 @zbis))) (ai (ai (ai @zcjr @zclm) (ai @zcpg @zbgc)) (ai (ai @zcph @zcln) (ai @zbgd @zbf6)))) := (ai (ai (ai (ai @zcaj @zcqr) (ai @zbqs @zbjt)) (ai (ai @zbk1 @zcjy) (ai @zb81 @zbis))) (ai (ai (ai @zcjr @zclm) (ai @zcpg @zbgc)) (ai (ai @zcph @zcln) (ai @zbgd @zbf6))))
theorem TT8 : type_of% (ai (ai (ai (ai @zcmn @zcmo) (ai @zbf7 @zbou)) (ai (ai @zbgb @zbga) (ai @zbf8 @zbf9))) (ai (ai (ai @zcmm @zclp) (ai @zclo @zclq)) (ai (ai @zbge @zbf5) (ai @zbjn @zcjc)))) := (ai (ai (ai (ai @zcmn @zcmo) (ai @zbf7 @zbou)) (ai (ai @zbgb @zbga) (ai @zbf8 @zbf9))) (ai (ai (ai @zcmm @zclp) (ai @zclo @zclq)) (ai (ai @zbge @zbf5) (ai @zbjn @zcjc))))
theorem TT9 : type_of% (ai (ai (ai (ai @zb42 @zbjm) (ai @zb43 @zbjl)) (ai (ai @zb7a @zbi7) (ai @zcjj @zcnj))) (ai (ai (ai @zbpw @zbi6) (ai @zbi5 @zb7v)) (ai (ai @zbw0 @zb7w) (ai @zbv7 @zcm2)))) := (ai (ai (ai (ai @zb42 @zbjm) (ai @zb43 @zbjl)) (ai (ai @zb7a @zbi7) (ai @zcjj @zcnj))) (ai (ai (ai @zbpw @zbi6) (ai @zbi5 @zb7v)) (ai (ai @zbw0 @zb7w) (ai @zbv7 @zcm2))))
theorem zcqp : type_of% (ai (ai (ai (ai @zbop @zbfl) (ai @zbfk @zbvw)) (ai (ai @zbvy @zbvx) (ai @zbvz @zbh6))) (ai (ai (ai @zbqq @zbpv) (ai @zbqr @zcjp)) (ai (ai @zbit @zcjo) (ai @zcjq @zbxt)))) := (ai (ai (ai (ai @zbop @zbfl) (ai @zbfk @zbvw)) (ai (ai @zbvy @zbvx) (ai @zbvz @zbh6))) (ai (ai (ai @zbqq @zbpv) (ai @zbqr @zcjp)) (ai (ai @zbit @zcjo) (ai @zcjq @zbxt))))
theorem zcqo : type_of% (ai (ai (ai (ai @zbph @zbxu) (ai @zbpi @zb44)) (ai (ai @zcni @zbw7) (ai @zbk5 @zb6j))) (ai (ai (ai @zb8j @zb0p) (ai @zb0v @zbkv)) (ai (ai @zcmy @zb67) (ai @zcl3 @zcl2)))) := (ai (ai (ai (ai @zbph @zbxu) (ai @zbpi @zb44)) (ai (ai @zcni @zbw7) (ai @zbk5 @zb6j))) (ai (ai (ai @zb8j @zb0p) (ai @zb0v @zbkv)) (ai (ai @zcmy @zb67) (ai @zcl3 @zcl2))))
theorem zcqn : type_of% (ai (ai (ai (ai @zb69 @zbw1) (ai @zb9f @zbpx)) (ai (ai @zbxv @zbw8) (ai @zbxx @zbkw))) (ai (ai (ai @zbfi @zcl1) (ai @zbky @zbel)) (ai (ai @zcmw @zb3w) (ai @zb3v @zb46)))) := (ai (ai (ai (ai @zb69 @zbw1) (ai @zb9f @zbpx)) (ai (ai @zbxv @zbw8) (ai @zbxx @zbkw))) (ai (ai (ai @zbfi @zcl1) (ai @zbky @zbel)) (ai (ai @zcmw @zb3w) (ai @zb3v @zb46))))
theorem zcqm : type_of% (ai (ai (ai (ai @zbfv @zcms) (ai @zcnh @zbxf)) (ai (ai @zbxe @zbxd) (ai @zb8i @zcah))) (ai (ai (ai @zcmz @zcm0) (ai @zcm1 @zbwq)) (ai (ai @zbwp @zb40) (ai @zcne @zbkd)))) := (ai (ai (ai (ai @zbfv @zcms) (ai @zcnh @zbxf)) (ai (ai @zbxe @zbxd) (ai @zb8i @zcah))) (ai (ai (ai @zcmz @zcm0) (ai @zcm1 @zbwq)) (ai (ai @zbwp @zb40) (ai @zcne @zbkd))))
theorem zcql : type_of% (ai (ai (ai (ai @zbke @zb48) (ai @zcnf @zbj6)) (ai (ai @zb5e @zbka) (ai @zbkc @zb5a))) (ai (ai (ai @zbkb @zb49) (ai @zcng @zbxh)) (ai (ai @zb7x @zb7y) (ai @zb7z @zbv1)))) := (ai (ai (ai (ai @zbke @zb48) (ai @zcnf @zbj6)) (ai (ai @zb5e @zbka) (ai @zbkc @zb5a))) (ai (ai (ai @zbkb @zb49) (ai @zcng @zbxh)) (ai (ai @zb7x @zb7y) (ai @zb7z @zbv1))))
theorem zcqk : type_of% (ai (ai (ai (ai @zbv0 @zbxq) (ai @zbqj @zbku)) (ai (ai @zbqi @zbkq) (ai @zbkp @zbkr))) (ai (ai (ai @zbkt @zbks) (ai @zbqh @zbqk)) (ai (ai @zbhx @zcj8) (ai @zbhw @zckc)))) := (ai (ai (ai (ai @zbv0 @zbxq) (ai @zbqj @zbku)) (ai (ai @zbqi @zbkq) (ai @zbkp @zbkr))) (ai (ai (ai @zbkt @zbks) (ai @zbqh @zbqk)) (ai (ai @zbhx @zcj8) (ai @zbhw @zckc))))
theorem zcqj : type_of% (ai (ai (ai (ai @zckd @zckb) (ai @zcj9 @zcka)) (ai (ai @zbip @zcjv) (ai @zb6o @zb6n))) (ai (ai (ai @zboq @zb5d) (ai @zcm5 @zb9a)) (ai (ai @zb7e @zcnr) (ai @zcny @zb7j)))) := (ai (ai (ai (ai @zckd @zckb) (ai @zcj9 @zcka)) (ai (ai @zbip @zcjv) (ai @zb6o @zb6n))) (ai (ai (ai @zboq @zb5d) (ai @zcm5 @zb9a)) (ai (ai @zb7e @zcnr) (ai @zcny @zb7j))))
theorem zcqi : type_of% (ai (ai (ai (ai @zcns @zb7k) (ai @zcnx @zcjx)) (ai (ai @zcnt @zcnu) (ai @zcnw @zcnv))) (ai (ai (ai @zb7i @zb7g) (ai @zb7f @zb7h)) (ai (ai @zcnq @zcnz) (ai @zcpk @zcke)))) := (ai (ai (ai (ai @zcns @zb7k) (ai @zcnx @zcjx)) (ai (ai @zcnt @zcnu) (ai @zcnw @zcnv))) (ai (ai (ai @zb7i @zb7g) (ai @zb7f @zb7h)) (ai (ai @zcnq @zcnz) (ai @zcpk @zcke))))
theorem zcqh : type_of% (ai (ai (ai (ai @zbhn @zbhg) (ai @zckj @zbhm)) (ai (ai @zckk @zbhh) (ai @zbpb @zbhl))) (ai (ai (ai @zbhk @zbhi) (ai @zbhj @zcki)) (ai (ai @zckg @zckf) (ai @zckh @zbho)))) := (ai (ai (ai (ai @zbhn @zbhg) (ai @zckj @zbhm)) (ai (ai @zckk @zbhh) (ai @zbpb @zbhl))) (ai (ai (ai @zbhk @zbhi) (ai @zbhj @zcki)) (ai (ai @zckg @zckf) (ai @zckh @zbho))))
theorem zcqg : type_of% (ai (ai (ai (ai @zbhf @zb92) (ai @zb7t @zcof)) (ai (ai @zcom @zb8v) (ai @zcog @zb8w))) (ai (ai (ai @zcol @zcjl) (ai @zcoh @zcoi)) (ai (ai @zcok @zcoj) (ai @zb8u @zb8s)))) := (ai (ai (ai (ai @zbhf @zb92) (ai @zb7t @zcof)) (ai (ai @zcom @zb8v) (ai @zcog @zb8w))) (ai (ai (ai @zcol @zcjl) (ai @zcoh @zcoi)) (ai (ai @zcok @zcoj) (ai @zb8u @zb8s))))
theorem zcqf : type_of% (ai (ai (ai (ai @zb7u @zb8t) (ai @zcoe @zcon)) (ai (ai @zb7b @zcn5) (ai @zb5m @zb5t))) (ai (ai (ai @zcoa @zb5n) (ai @zcob @zb5s)) (ai (ai @zbjv @zb5o) (ai @zb5p @zb5r)))) := (ai (ai (ai (ai @zb7u @zb8t) (ai @zcoe @zcon)) (ai (ai @zb7b @zcn5) (ai @zb5m @zb5t))) (ai (ai (ai @zcoa @zb5n) (ai @zcob @zb5s)) (ai (ai @zbjv @zb5o) (ai @zb5p @zb5r))))
theorem zcqe : type_of% (ai (ai (ai (ai @zb5q @zcn9) (ai @zcn7 @zcn6)) (ai (ai @zcn8 @zb5l) (ai @zb5u @zb73))) (ai (ai (ai @zcm9 @zb6b) (ai @zb5j @zcn3)) (ai (ai @zb6c @zcn4) (ai @zb5i @zbjw)))) := (ai (ai (ai (ai @zb5q @zcn9) (ai @zcn7 @zcn6)) (ai (ai @zcn8 @zb5l) (ai @zb5u @zb73))) (ai (ai (ai @zcm9 @zb6b) (ai @zb5j @zcn3)) (ai (ai @zb6c @zcn4) (ai @zb5i @zbjw))))
theorem zcqd : type_of% (ai (ai (ai (ai @zb6d @zb6e) (ai @zb5h @zb5g)) (ai (ai @zcnd @zcnb) (ai @zcna @zcnc))) (ai (ai (ai @zb6a @zb5k) (ai @zb7c @zcoc)) (ai (ai @zb5w @zb53) (ai @zcno @zb5x)))) := (ai (ai (ai (ai @zb6d @zb6e) (ai @zb5h @zb5g)) (ai (ai @zcnd @zcnb) (ai @zcna @zcnc))) (ai (ai (ai @zb6a @zb5k) (ai @zb7c @zcoc)) (ai (ai @zb5w @zb53) (ai @zcno @zb5x))))
theorem zcqc : type_of% (ai (ai (ai (ai @zcnp @zb52) (ai @zbju @zb5y)) (ai (ai @zb5z @zb51) (ai @zb50 @zcnn))) (ai (ai (ai @zcnl @zcnk) (ai @zcnm @zb5v)) (ai (ai @zb54 @zb75) (ai @zcpl @zckr)))) := (ai (ai (ai (ai @zcnp @zb52) (ai @zbju @zb5y)) (ai (ai @zb5z @zb51) (ai @zb50 @zcnn))) (ai (ai (ai @zcnl @zcnk) (ai @zcnm @zb5v)) (ai (ai @zb54 @zb75) (ai @zcpl @zckr))))
theorem zcqb : type_of% (ai (ai (ai (ai @zclw @zcpr) (ai @zcks @zcps)) (ai (ai @zclv @zbg6) (ai @zclr @zcls))) (ai (ai (ai @zclu @zclt) (ai @zcpq @zcpo)) (ai (ai @zcpn @zcpp) (ai @zckq @zclx)))) := (ai (ai (ai (ai @zclw @zcpr) (ai @zcks @zcps)) (ai (ai @zclv @zbg6) (ai @zclr @zcls))) (ai (ai (ai @zclu @zclt) (ai @zcpq @zcpo)) (ai (ai @zcpn @zcpp) (ai @zckq @zclx))))
theorem zcqa : type_of% (ai (ai (ai (ai @zcpe @zclc) (ai @zbg0 @zbgt)) (ai (ai @zclh @zbgz) (ai @zcli @zbgu))) (ai (ai (ai @zbo5 @zbgy) (ai @zbgx @zbgv)) (ai (ai @zbgw @zclg) (ai @zcle @zcld)))) := (ai (ai (ai (ai @zcpe @zclc) (ai @zbg0 @zbgt)) (ai (ai @zclh @zbgz) (ai @zcli @zbgu))) (ai (ai (ai @zbo5 @zbgy) (ai @zbgx @zbgv)) (ai (ai @zbgw @zclg) (ai @zcle @zcld))))
theorem zcp9 : type_of% (ai (ai (ai (ai @zclf @zbg1) (ai @zbgs @zclk)) (ai (ai @zbgo @zbo3) (ai @zbow @zbgi))) (ai (ai (ai @zbo2 @zbgh) (ai @zbox @zbwd)) (ai (ai @zbo1 @zbo0) (ai @zboy @zboz)))) := (ai (ai (ai (ai @zclf @zbg1) (ai @zbgs @zclk)) (ai (ai @zbgo @zbo3) (ai @zbow @zbgi))) (ai (ai (ai @zbo2 @zbgh) (ai @zbox @zbwd)) (ai (ai @zbo1 @zbo0) (ai @zboy @zboz))))
theorem zcp8 : type_of% (ai (ai (ai (ai @zbgj @zbgl) (ai @zbgn @zbgk)) (ai (ai @zbo4 @zbov) (ai @zcjt @zbiq))) (ai (ai (ai @zcjs @zb9x) (ai @zb76 @zcoz)) (ai (ai @zco6 @zb8a) (ai @zco0 @zb8b)))) := (ai (ai (ai (ai @zbgj @zbgl) (ai @zbgn @zbgk)) (ai (ai @zbo4 @zbov) (ai @zcjt @zbiq))) (ai (ai (ai @zcjs @zb9x) (ai @zb76 @zcoz)) (ai (ai @zco6 @zb8a) (ai @zco0 @zb8b))))
theorem zcp7 : type_of% (ai (ai (ai (ai @zco5 @zcly) (ai @zco1 @zco2)) (ai (ai @zco4 @zco3) (ai @zb79 @zb77))) (ai (ai (ai @zb78 @zcoy) (ai @zco7 @zb9w)) (ai (ai @zb8c @zco8) (ai @zck3 @zcla)))) := (ai (ai (ai (ai @zco5 @zcly) (ai @zco1 @zco2)) (ai (ai @zco4 @zco3) (ai @zb79 @zb77))) (ai (ai (ai @zb78 @zcoy) (ai @zco7 @zb9w)) (ai (ai @zb8c @zco8) (ai @zck3 @zcla))))
theorem zcp6 : type_of% (ai (ai (ai (ai @zcpc @zck4) (ai @zcpd @zck9)) (ai (ai @zbg2 @zck5) (ai @zck6 @zck8))) (ai (ai (ai @zck7 @zcpb) (ai @zco9 @zcpa)) (ai (ai @zck2 @zclb) (ai @zcaf @zcku)))) := (ai (ai (ai (ai @zcpc @zck4) (ai @zcpd @zck9)) (ai (ai @zbg2 @zck5) (ai @zck6 @zck8))) (ai (ai (ai @zck7 @zcpb) (ai @zco9 @zcpa)) (ai (ai @zck2 @zclb) (ai @zcaf @zcku))))
theorem zcp5 : type_of% (ai (ai (ai (ai @zb8r @zbih) (ai @zb6r @zbps)) (ai (ai @zb6y @zbpl) (ai @zb86 @zbia))) (ai (ai (ai @zb6s @zbpr) (ai @zb87 @zbh9)) (ai (ai @zb6x @zbpm) (ai @zcmx @zbwr)))) := (ai (ai (ai (ai @zb8r @zbih) (ai @zb6r @zbps)) (ai (ai @zb6y @zbpl) (ai @zb86 @zbia))) (ai (ai (ai @zb6s @zbpr) (ai @zb87 @zbh9)) (ai (ai @zb6x @zbpm) (ai @zcmx @zbwr))))
theorem zcp4 : type_of% (ai (ai (ai (ai @zb6t @zbpq) (ai @zb6u @zbpp)) (ai (ai @zb6w @zbpn) (ai @zb6v @zbpo))) (ai (ai (ai @zb85 @zbib) (ai @zb83 @zbid)) (ai (ai @zb82 @zbig) (ai @zb84 @zbic)))) := (ai (ai (ai (ai @zb6t @zbpq) (ai @zb6u @zbpp)) (ai (ai @zb6w @zbpn) (ai @zb6v @zbpo))) (ai (ai (ai @zb85 @zbib) (ai @zb83 @zbid)) (ai (ai @zb82 @zbig) (ai @zb84 @zbic))))
theorem zcp3 : type_of% (ai (ai (ai (ai @zb6q @zbpt) (ai @zb6z @zbpk)) (ai (ai @zb8q @zcae) (ai @zbii @zckt))) (ai (ai (ai @zcmf @zbei) (ai @zb7d @zb60)) (ai (ai @zcm6 @zb72) (ai @zcm7 @ak)))) := (ai (ai (ai (ai @zb6q @zbpt) (ai @zb6z @zbpk)) (ai (ai @zb8q @zcae) (ai @zbii @zckt))) (ai (ai (ai @zcmf @zbei) (ai @zb7d @zb60)) (ai (ai @zcm6 @zb72) (ai @zcm7 @ak))))
theorem zcp2 : type_of% (ai (ai (ai (ai @ag @zbh4) (ai @za4o @ay)) (ai (ai @ah @zbin) (ai @zbim @zbxg))) (ai (ai (ai @zb5f @zbno) (ai @zcow @zcox)) (ai (ai @zcjz @jd) (ai @zb7n @zb9y)))) := (ai (ai (ai (ai @ag @zbh4) (ai @za4o @ay)) (ai (ai @ah @zbin) (ai @zbim @zbxg))) (ai (ai (ai @zb5f @zbno) (ai @zcow @zcox)) (ai (ai @zcjz @jd) (ai @zb7n @zb9y))))
theorem zcp1 : type_of% (ai (ai (ai (ai @zb8d @zccv) (ai @zb93 @zboh)) (ai (ai @zbn3 @zbn9) (ai @zbog @zbvv))) (ai (ai (ai @zbn2 @zboa) (ai @zbob @zboc)) (ai (ai @zbod @zboe) (ai @zbn8 @zbn7)))) := (ai (ai (ai (ai @zb8d @zccv) (ai @zb93 @zboh)) (ai (ai @zbn3 @zbn9) (ai @zbog @zbvv))) (ai (ai (ai @zbn2 @zboa) (ai @zbob @zboc)) (ai (ai @zbod @zboe) (ai @zbn8 @zbn7))))
theorem zcp0 : type_of% (ai (ai (ai (ai @zbn6 @zbn5) (ai @zbn4 @zbof)) (ai (ai @zbe2 @zbe1) (ai @zbnt @zbns))) (ai (ai (ai @zbnu @zb91) (ai @zbie @zbiv)) (ai (ai @zbh8 @zbif) (ai @zbiu @zbiw)))) := (ai (ai (ai (ai @zbn6 @zbn5) (ai @zbn4 @zbof)) (ai (ai @zbe2 @zbe1) (ai @zbnt @zbns))) (ai (ai (ai @zbnu @zb91) (ai @zbie @zbiv)) (ai (ai @zbh8 @zbif) (ai @zbiu @zbiw))))
theorem zcpz : type_of% (ai (ai (ai (ai @zbjo @zb9d) (ai @zcap @zcat)) (ai (ai @zbki @zclz) (ai @zcmt @zb63))) (ai (ai (ai @zcl0 @zb64) (ai @zb62 @zb8h)) (ai (ai @zcpi @zcpf) (ai @zbgp @zclj)))) := (ai (ai (ai (ai @zbjo @zb9d) (ai @zcap @zcat)) (ai (ai @zbki @zclz) (ai @zcmt @zb63))) (ai (ai (ai @zcl0 @zb64) (ai @zb62 @zb8h)) (ai (ai @zcpi @zcpf) (ai @zbgp @zclj))))
theorem zcpy : type_of% (ai (ai (ai (ai @zb61 @zcj1) (ai @zcj0 @List.map_cons.{0,0})) (ai (ai @List.map_nil.{0,0} @List.getD_cons_zero.{0}) (ai @List.getD_cons_succ.{0} @List.getElem?_cons_zero.{0}))) (ai (ai (ai @List.getElem?_cons_succ.{0} @List.length_cons.{0}) (ai @List.length_nil.{0} @List.drop_succ_cons.{0})) (ai (ai @List.drop_zero.{0} @List.take_succ_cons.{0}) (ai @List.take_zero.{0} @List.take_nil.{0})))) := (ai (ai (ai (ai @zb61 @zcj1) (ai @zcj0 @List.map_cons.{0,0})) (ai (ai @List.map_nil.{0,0} @List.getD_cons_zero.{0}) (ai @List.getD_cons_succ.{0} @List.getElem?_cons_zero.{0}))) (ai (ai (ai @List.getElem?_cons_succ.{0} @List.length_cons.{0}) (ai @List.length_nil.{0} @List.drop_succ_cons.{0})) (ai (ai @List.drop_zero.{0} @List.take_succ_cons.{0}) (ai @List.take_zero.{0} @List.take_nil.{0}))))
theorem zcpx : type_of% (ai (ai (ai (ai @List.take_length.{0} @List.set_cons_zero.{0}) (ai @List.set_cons_succ.{0} @Option.map_some.{0,0})) (ai (ai @Option.map_none.{0,0} @Option.bind_some.{0,0}) (ai @and_true @true_and))) (ai (ai (ai @Bool.not_true @Bool.not_false) (ai @List.all_cons.{0} @List.all_nil.{0})) (ai (ai @Bool.and_true @Bool.true_and) (ai @Bool.and_self @not_false_eq_true)))) := (ai (ai (ai (ai @List.take_length.{0} @List.set_cons_zero.{0}) (ai @List.set_cons_succ.{0} @Option.map_some.{0,0})) (ai (ai @Option.map_none.{0,0} @Option.bind_some.{0,0}) (ai @and_true @true_and))) (ai (ai (ai @Bool.not_true @Bool.not_false) (ai @List.all_cons.{0} @List.all_nil.{0})) (ai (ai @Bool.and_true @Bool.true_and) (ai @Bool.and_self @not_false_eq_true))))
theorem zcpw : type_of% (ai (ai (ai (ai @Nat.zero_add @Nat.le_refl) (ai @Nat.add_zero @Nat.zero_mul)) (ai (ai @Nat.mul_one @Nat.one_mul) (ai @Int.toNat_zero @Int.toNat_natCast))) (ai (ai (ai @List.nil_append.{0} @List.cons_append.{0}) (ai @List.append_nil.{0} @cond_true.{1})) (ai (ai @cond_false.{1} @if_true.{1}) (ai @if_false.{1} @List.length_map.{0,0})))) := (ai (ai (ai (ai @Nat.zero_add @Nat.le_refl) (ai @Nat.add_zero @Nat.zero_mul)) (ai (ai @Nat.mul_one @Nat.one_mul) (ai @Int.toNat_zero @Int.toNat_natCast))) (ai (ai (ai @List.nil_append.{0} @List.cons_append.{0}) (ai @List.append_nil.{0} @cond_true.{1})) (ai (ai @cond_false.{1} @if_true.{1}) (ai @if_false.{1} @List.length_map.{0,0}))))
theorem zcpv : type_of% (ai (ai (ai @List.length_append.{0} @not_true_eq_false) (ai @decide_eq_true_eq (ai @or_true @true_or))) (ai (ai @or_false (ai @false_or @ne_eq.{1})) (ai @eq_self.{1} (ai @bne_self_eq_false.{0} @beq_self_eq_true.{0})))) := (ai (ai (ai @List.length_append.{0} @not_true_eq_false) (ai @decide_eq_true_eq (ai @or_true @true_or))) (ai (ai @or_false (ai @false_or @ne_eq.{1})) (ai @eq_self.{1} (ai @bne_self_eq_false.{0} @beq_self_eq_true.{0}))))
theorem TT : type_of% (ai (ai (ai (ai (ai @TT0 @TT1) (ai @TT2 (ai @TT3 @TT4))) (ai (ai @TT5 @TT6) (ai @TT7 (ai @TT8 @TT9)))) (ai (ai (ai @zcqp @zcqo) (ai @zcqn (ai @zcqm @zcql))) (ai (ai @zcqk @zcqj) (ai @zcqi (ai @zcqh @zcqg))))) (ai (ai (ai (ai @zcqf @zcqe) (ai @zcqd (ai @zcqc @zcqb))) (ai (ai @zcqa @zcp9) (ai @zcp8 (ai @zcp7 @zcp6)))) (ai (ai (ai @zcp5 @zcp4) (ai @zcp3 (ai @zcp2 @zcp1))) (ai (ai @zcp0 (ai @zcpz @zcpy)) (ai @zcpx (ai @zcpw @zcpv)))))) := (ai (ai (ai (ai (ai @TT0 @TT1) (ai @TT2 (ai @TT3 @TT4))) (ai (ai @TT5 @TT6) (ai @TT7 (ai @TT8 @TT9)))) (ai (ai (ai @zcqp @zcqo) (ai @zcqn (ai @zcqm @zcql))) (ai (ai @zcqk @zcqj) (ai @zcqi (ai @zcqh @zcqg))))) (ai (ai (ai (ai @zcqf @zcqe) (ai @zcqd (ai @zcqc @zcqb))) (ai (ai @zcqa @zcp9) (ai @zcp8 (ai @zcp7 @zcp6)))) (ai (ai (ai @zcp5 @zcp4) (ai @zcp3 (ai @zcp2 @zcp1))) (ai (ai @zcp0 (ai @zcpz @zcpy)) (ai @zcpx (ai @zcpw @zcpv))))))
end Go.Proofs.Ytdcfoaafkppojaa.Sh
