import Derived.Test.YtdcfoaafkppojaaTv8
set_option linter.unusedVariables false
set_option linter.unusedSimpArgs false
/- The tree level: evaluation, step by step: printed by a program of ours. -/
namespace Go.Proofs.Ytdcfoaafkppojaa.Sh
open Go Go.RowKit
def pK (o : Option TV) (d : Option Nat) (K : aq) (fr : TF) (tk : TK) (τ : TH) : Prop := match o with | some v => K (ew fr d v) tk τ | none => False
def zbo8 (lv : List Nat) (tk : TK) (τ : TH) (fr' : TF) (tk' : TK) (τ' : TH) (K : aq) : Prop := if ltL τ.next tk.length (lv.map fun t => lkp fr' t) = true then K (sel lv fr') (tk'.take tk.length) (τ'.cut τ.next) else K (sel lv fr') tk' τ'
def fzK (o : Option TV) (τ : TH) (K : TV → TH → Prop) (τ' : TH) : Prop := match o with | some u => K u (τ'.cut τ.next) | none => False
def rtK (o : Option TV) (τ : TH) (K : TV → TH → Prop) (τ' : TH) : Prop := match o with | some v => (if v.canT.under τ.next then K v.canT (τ'.cut τ.next) else v.canT.under τ'.next = true ∧ K v.canT τ') | none => False
def pl (l : List ap) : List (ap × List Nat) := l.map fun x => (x,[])
def tLD (Γ : FuncId → Option TG) : List ap → aq → aq
 | [],K => K
 | ⟨⟨d,i,none⟩,m⟩ :: r,K => fun fr tk τ => tG Γ true i m d (tLD Γ r K) fr tk τ
 | ⟨⟨d,i,some (t,b)⟩,m⟩ :: r,K => fun fr tk τ => gdK Γ true (lkp fr t) b i m d (tLD Γ r K) fr tk τ
section
variable (Γ : FuncId → Option TG) (dr : Bool) (d : Option Nat) (K : aq) (fr fr' : TF) (tk tk' : TK) (τ τ' : TH) (Q : TEx → aq) (a b : TC) (lv : List Nat) (r : List ap) (m : Nat)
theorem zbq0 : ∀ (l : List ap) (n : Nat) (told : List (Nat × Ins)) (K : aq),tD Γ n (pl l) K told = tLD Γ l K
 | [],n,told,K => rfl
 | ⟨⟨d,i,g⟩,m⟩ :: r,n,told,K => by
  funext fr tk τ
  cases g with
  | none =>
   show tG Γ true i m d (pnK _ n fr τ told [] (tD Γ (n + 1) (pl r) K)) fr tk τ = tG Γ true i m d (tLD Γ r K) fr tk τ
   have q : pnK ⟨⟨d,i,none⟩,m⟩ n fr τ told [] (tD Γ (n + 1) (pl r) K) = tLD Γ r K := by
    funext fr' tk' τ'
    unfold pnK
    simp [zbq0 r]
   rw [q]
  | some tb =>
   obtain ⟨t,b⟩ := tb
   show gdK Γ true (lkp fr t) b i m d (pnK _ n fr τ told [] (tD Γ (n + 1) (pl r) K)) fr tk τ = gdK Γ true (lkp fr t) b i m d (tLD Γ r K) fr tk τ
   have q : pnK ⟨⟨d,i,some (t,b)⟩,m⟩ n fr τ told [] (tD Γ (n + 1) (pl r) K) = tLD Γ r K := by
    funext fr' tk' τ'
    unfold pnK
    simp [zbq0 r]
   rw [q]
def tSp (Γ : FuncId → Option TG) (o : Option ap) (K : aq) : aq := fun fr tk τ => match o with
 | some ⟨⟨d,i,none⟩,m⟩ => tG Γ true i m d K fr tk τ
 | some ⟨⟨d,i,some (t,b)⟩,m⟩ => gdK Γ true (lkp fr t) b i m d K fr tk τ
 | none => False
def tTp (Γ : FuncId → Option TG) (lv : List Nat) (l : List ap) : DTr Nat → aq → aq
 | .nil,K => K
 | .cons k r,K => tSp Γ l[k]? (tTp Γ lv l r K)
 | .alt k r j q,K => fun fr tk τ => tSp Γ l[k]? (tTp Γ lv l r fun fr1 tk1 τ1 => tSp Γ l[j]? (tTp Γ lv l q fun fr2 tk2 τ2 => (sel lv fr1 = sel lv fr2 ∧ tk1 = tk2 ∧ τ1 = τ2) ∧ K fr1 tk1 τ1) fr tk τ) fr tk τ
theorem zbqx (l : List ap) (k : Nat) (told : List (Nat × Ins)) (K : aq) (K' : List (Nat × Ins) → aq) (hK : ∀ t,K' t = K) : tS Γ (pl l) (pl l)[k]? k told K' = tSp Γ l[k]? K := by
 have e : (pl l)[k]? = (l[k]?).map fun x => (x,[]) := by unfold pl; rw [List.getElem?_map]
 rw [e]
 generalize pl l = L
 funext fr tk τ
 cases l[k]? with
 | none => rfl
 | some x =>
  obtain ⟨⟨d,i,g⟩,m⟩ := x
  cases g with
  | none =>
   show tG Γ true i m d (pnT L _ k fr τ told [] K') fr tk τ = tG Γ true i m d K fr tk τ
   have q : pnT L ⟨⟨d,i,none⟩,m⟩ k fr τ told [] K' = K := by
    funext fr' tk' τ'
    unfold pnT
    simp [hK]
   rw [q]
  | some tb =>
   obtain ⟨t,b⟩ := tb
   show gdK Γ true (lkp fr t) b i m d (pnT L _ k fr τ told [] K') fr tk τ = gdK Γ true (lkp fr t) b i m d K fr tk τ
   have q : pnT L ⟨⟨d,i,some (t,b)⟩,m⟩ k fr τ told [] K' = K := by
    funext fr' tk' τ'
    unfold pnT
    simp [hK]
   rw [q]
theorem zbk5 (l : List ap) : ∀ (t : DTr Nat) (K : aq) (K' : List (Nat × Ins) → aq) (hK : ∀ t,K' t = K) (told : List (Nat × Ins)),tT Γ lv (pl l) t K' told = tTp Γ lv l t K
 | .nil,K,K',hK,told => hK told
 | .cons k r,K,K',hK,told => zbqx Γ l k told _ _ fun t => zbk5 l r K K' hK t
 | .alt k r j q,K,K',hK,told => by
  funext fr tk τ
  show tS Γ (pl l) (pl l)[k]? k told (tT Γ lv (pl l) r _) fr tk τ = tSp Γ l[k]? (tTp Γ lv l r _) fr tk τ
  refine congrFun (congrFun (congrFun (zbqx Γ l k told _ _ fun t => zbk5 l r _ _ (fun t1 => ?_) t) fr) tk) τ
  funext fr1 tk1 τ1
  refine congrFun (congrFun (congrFun (zbqx Γ l j told _ _ fun t => zbk5 l q _ _ (fun t2 => ?_) t) fr) tk) τ
  funext fr2 tk2 τ2
  rw [hK]
def zbs7 (Γ : FuncId → Option TG) (l : List ap) : List (DTr Nat × List Nat) → aq → aq
 | [],K => K
 | (t,lv) :: r,K => tTp Γ lv l t fun fr' tk' τ' => zbs7 Γ l r K (sel lv fr') tk' τ'
theorem zbnp (l : List ap) : ∀ (t : List (DTr Nat × List Nat)) (K : aq) (told : List (Nat × Ins)),tSg Γ (pl l) t K told = zbs7 Γ l t K
 | [],K,told => rfl
 | (t,lv) :: r,K,told => zbk5 Γ lv l t _ _ (fun t' => by funext fr' tk' τ'; rw [zbnp l r K t']) told
theorem jm (i : I) : pq i 0 fr τ = (fr,τ) := rfl
theorem jl (i : I) : pq i 1 fr τ = (fr,τ) := rfl
theorem jj (i : I) : pq i 2 fr τ = (fr,τ) := rfl
theorem ji (i : I) : pq i 7 fr τ = (fr,τ) := rfl
theorem zbpc : tW Γ .skip Q fr tk τ = Q .normal fr tk τ := zbqt
theorem zbpd (id : Nat) : tW Γ (.exit id) Q fr tk τ = Q (.exit id) fr tk τ := zbqv
theorem zbwh : tW Γ (.ret lv) Q fr tk τ = Q .ret (sel lv fr) tk τ := zbu0
theorem zbwi : tW Γ (.ops r) Q fr tk τ = tL Γ r (Q .normal) fr tk τ := zbu1
theorem cp (t : List (DTr Nat × List Nat)) : tW Γ (.drawT (pl r) t) Q fr tk τ = zbs7 Γ r t (Q .normal) fr tk τ := by rw [cw,zbnp]
theorem zclm : zbs7 Γ r [] K = K := rfl
theorem zb4z (t : DTr Nat) (q : List (DTr Nat × List Nat)) : zbs7 Γ r ((t,lv) :: q) K fr tk τ = tTp Γ lv r t (fun fr1 tk1 τ1 => zbs7 Γ r q K (sel lv fr1) tk1 τ1) fr tk τ := rfl
theorem zbed : tTp Γ lv r .nil K = K := rfl
theorem zclp (k : Nat) (t : DTr Nat) : tTp Γ lv r (.cons k t) K = tSp Γ r[k]? (tTp Γ lv r t K) := rfl
theorem zbee (k j : Nat) (t q : DTr Nat) : tTp Γ lv r (.alt k t j q) K fr tk τ = tSp Γ r[k]? (tTp Γ lv r t fun fr1 tk1 τ1 => tSp Γ r[j]? (tTp Γ lv r q fun fr2 tk2 τ2 => (sel lv fr1 = sel lv fr2 ∧ tk1 = tk2 ∧ τ1 = τ2) ∧ K fr1 tk1 τ1) fr tk τ) fr tk τ := rfl
theorem zcln (i : I) : tSp Γ (some ⟨⟨d,i,none⟩,m⟩) K fr tk τ = tG Γ true i m d K fr tk τ := rfl
theorem zclo (i : I) (t : Nat) (b : Bool) : tSp Γ (some ⟨⟨d,i,some (t,b)⟩,m⟩) K fr tk τ = gdK Γ true (lkp fr t) b i m d K fr tk τ := rfl
theorem zbjq : tW Γ (.draw (pl r)) Q fr tk τ = tLD Γ r (Q .normal) fr tk τ := by rw [ee,zbq0]
theorem zbwg : tW Γ (.seq a b) Q fr tk τ = tW Γ a (zbdy (tW Γ b Q) Q) fr tk τ := zbuz
theorem zbpe (c : Operand) : tW Γ (.cond c a b) Q fr tk τ = cT Γ (tO fr c) a b Q fr tk τ := zbqw
theorem zbjs (id : Nat) : tW Γ (.block id lv a) Q fr tk τ = tW Γ a (zbc7 id lv tk τ Q) fr tk τ := zbk4
theorem zbjr : tW Γ (.clean lv a) Q fr tk τ = tW Γ a Q (sel lv fr) tk τ := zbk3
theorem zbi2 (c : Bool) : cT Γ (.bool c) a b Q fr tk τ = if c = true then tW Γ a Q fr tk τ else tW Γ b Q fr tk τ := rfl
theorem zbdw (n : aq) : zbdy n Q .normal = n := rfl
theorem zbdv (n : aq) : zbdy n Q .ret = Q .ret := rfl
theorem zbdx (n : aq) (id : Nat) : zbdy n Q (.exit id) = Q (.exit id) := rfl
theorem zb3z (id : Nat) : zbc7 id lv tk τ Q .normal fr' tk' τ' = zbo8 lv tk τ fr' tk' τ' (Q .normal) := by unfold zbc7 zbo8 qe; simp only [true_or,if_true]; split <;> rfl
theorem zb3y (id : Nat) : zbc7 id lv tk τ Q (.exit id) fr' tk' τ' = zbo8 lv tk τ fr' tk' τ' (Q .normal) := by unfold zbc7 zbo8 qe; simp only [or_true,if_true]; split <;> rfl
theorem zcmz (id j : Nat) (h : (j = id) = False) : zbc7 id lv tk τ Q (.exit j) = Q (.exit j) := by funext fr tk τ; unfold zbc7; simp [h]
theorem zb30 (id : Nat) : zbc7 id lv tk τ Q .ret = Q .ret := by funext fr tk τ; unfold zbc7; simp
theorem zb2c (Q : TEx → aq) : zbhm Γ lv a tk τ Q .normal fr' tk' τ' = zbo8 lv tk τ fr' tk' τ' (tW Γ (.loop lv a) Q) := by simp only [zbhm,zbo8,qe]; split <;> rfl
theorem zbhk (Q : TEx → aq) : zbhm Γ lv a tk τ Q .ret = Q .ret := rfl
theorem zbhl (Q : TEx → aq) (id : Nat) : zbhm Γ lv a tk τ Q (.exit id) = Q (.exit id) := rfl
theorem zbi7 : zbo8 lv tk τ fr' tk' τ' K = if ltL τ.next tk.length (lv.map fun t => lkp fr' t) = true then K (sel lv fr') (tk'.take tk.length) (τ'.cut τ.next) else K (sel lv fr') tk' τ' := rfl
theorem zbn0 (rs : List R) (K : TV → TH → Prop) : zble rs false τ K .ret fr tk τ' = rtK (zbbi rs fr τ') τ K τ' := by unfold zble rtK; cases zbbi rs fr τ' <;> simp
theorem zbn1 (rs : List R) (K : TV → TH → Prop) : zble rs false τ K .normal fr tk τ' = rtK (zbbi rs fr τ') τ K τ' := by unfold zble rtK; cases zbbi rs fr τ' <;> simp
theorem zbfc (rs : List R) (K : TV → TH → Prop) : zble rs true τ K .ret fr tk τ' = fzK ((zbbi rs fr τ').bind (tfz τ' τ.next)) τ K τ' := by unfold zble fzK; cases h : zbbi rs fr τ' with | none => simp | some v => simp only [Option.bind_some,or_true,true_and,if_true]; cases tfz τ' τ.next v <;> rfl
theorem zbfd (rs : List R) (K : TV → TH → Prop) : zble rs true τ K .normal fr tk τ' = fzK ((zbbi rs fr τ').bind (tfz τ' τ.next)) τ K τ' := by unfold zble fzK; cases h : zbbi rs fr τ' with | none => simp | some v => simp only [Option.bind_some,true_or,true_and,if_true]; cases tfz τ' τ.next v <;> rfl
theorem zcid (v : TV) (K : TV → TH → Prop) : fzK (some v) τ K τ' = K v (τ'.cut τ.next) := rfl
theorem zcko (v : TV) (K : TV → TH → Prop) : rtK (some v) τ K τ' = if v.canT.under τ.next then K v.canT (τ'.cut τ.next) else v.canT.under τ'.next = true ∧ K v.canT τ' := rfl
theorem zbm3 (r : R) : zbbi [r] fr τ = zo fr τ r := rfl
theorem zbm4 : zbbi [] fr τ = some (.tup []) := rfl
theorem zbm2 (r1 r2 : R) (l : List R) : zbbi (r1 :: r2 :: l) fr τ = (vh fr τ (r1 :: r2 :: l)).map .tup := rfl
def zbv5 (a : Option TV) (b : Option (List TV)) : Option (List TV) := match a,b with | some x,some y => some (x :: y) | _,_ => none
theorem zb96 : vh fr τ [] = some [] := rfl
theorem zccb (r : R) (l : List R) : vh fr τ (r :: l) = zbv5 (zo fr τ r) (vh fr τ l) := rfl
theorem zb64 (x : TV) (y : List TV) : zbv5 (some x) (some y) = some (x :: y) := rfl
def ld1 (τ : TH) : TV → Option TV | .ptr id off => zbks τ id off | .rptr cs off => cs[off]? | _ => none
def ldN (n : Nat) (τ : TH) : TV → Option TV | .ptr id off => if n = 0 then none else (za8g τ id off n).map .agg | .rptr cs off => if off + n ≤ cs.length then some (.agg ((cs.drop off).take n)) else none | _ => none
def rd1 (τ : TH) : TV → Option TV | .ptr id off => zbks τ id off | _ => none
def rdN (n : Nat) (τ : TH) : TV → Option TV | .ptr id off => if n = 0 then none else (za8g τ id off n).map .agg | _ => none
theorem zb8w (t : Nat) : zo fr τ (.tmp t) = some (lkp fr t) := rfl
theorem zb7a (t : Nat) : zo fr τ (.cell1 t) = rd1 τ (lkp fr t) := rfl
theorem zb7b (t n : Nat) : zo fr τ (.cellN t n) = rdN n τ (lkp fr t) := rfl
theorem zbf0 (id off : Nat) : rd1 τ (.ptr id off) = zbks τ id off := rfl
theorem zbfz (n id off : Nat) : rdN n τ (.ptr id off) = if n = 0 then none else (za8g τ id off n).map .agg := rfl
theorem zbnr : tL Γ [] K = K := rfl
theorem zbej (i : I) : tL Γ (⟨⟨d,i,none⟩,m⟩ :: r) K fr tk τ = tG Γ false i m d (tL Γ r K) fr tk τ := rfl
theorem zbei (i : I) (t : Nat) (b : Bool) : tL Γ (⟨⟨d,i,some (t,b)⟩,m⟩ :: r) K fr tk τ = gdK Γ false (lkp fr t) b i m d (tL Γ r K) fr tk τ := rfl
theorem zbel : tLD Γ [] K = K := rfl
theorem zcky (i : I) : tLD Γ (⟨⟨d,i,none⟩,m⟩ :: r) K fr tk τ = tG Γ true i m d (tLD Γ r K) fr tk τ := rfl
theorem zclj (i : I) (t : Nat) (b : Bool) : tLD Γ (⟨⟨d,i,some (t,b)⟩,m⟩ :: r) K fr tk τ = gdK Γ true (lkp fr t) b i m d (tLD Γ r K) fr tk τ := rfl
theorem zbvw (i : I) : gdK Γ dr (.bool true) true i m d K fr tk τ = tG Γ dr i m d K fr tk τ := by simp [gdK]
theorem zbvz (i : I) : gdK Γ dr (.bool false) false i m d K fr tk τ = tG Γ dr i m d K fr tk τ := by simp [gdK]
theorem zbvx (i : I) : gdK Γ dr (.bool true) false i m d K fr tk τ = K (ew fr d (.tup [])) tk τ := by simp [gdK]
theorem zbvy (i : I) : gdK Γ dr (.bool false) true i m d K fr tk τ = K (ew fr d (.tup [])) tk τ := by simp [gdK]
theorem zbo1 (i : I) (b : Bool) : gdK Γ dr (.tup []) b i m d K fr tk τ = K (ew fr d (.tup [])) tk τ := rfl
theorem zbps (f : FuncId) (args : List Operand) : tG Γ dr (.call f args) 0 d K fr tk τ = fi Γ dr f (args.map fun a => (tO fr a).canT) d K fr tk τ := rfl
theorem zbj9 (f : FuncId) (args : List Operand) : tG Γ dr (.call f args) 1 d K fr tk τ = zbyx Γ f (oc (tfz τ 0) (args.map (tO fr))) d K fr tk τ := rfl
theorem zclb (f : TV → Option TV) : oc f [] = some [] := rfl
def zb3o (a : Option TV) (b : Option (List TV)) : Option (List TV) := match a,b with | some x,some y => some (x :: y) | _,_ => none
theorem zb42 (f : TV → Option TV) (v : TV) (l : List TV) : oc f (v :: l) = zb3o (f v) (oc f l) := rfl
theorem zb5k (v : TV) (l : List TV) : zb3o (some v) (some l) = some (v :: l) := rfl
theorem zbd4 (n0 : Nat) (cs : List TV) : tfz τ n0 (.agg cs) = (oc (zah0 τ n0 2) cs).map .agg := rfl
theorem zclg (n0 : Nat) (b : Bool) : tfz τ n0 (.bool b) = some (TV.bool b) := rfl
theorem zb43 (n0 : Nat) (b : Bool) : zah0 τ n0 2 (.bool b) = some (TV.bool b) := rfl
theorem zbd3 (n0 : Nat) (k : IntKind) (n : Int) : tfz τ n0 (.int k n) = some (TV.int k n) := rfl
theorem zclc (n0 : Nat) (k : IntKind) (n : Int) : zah0 τ n0 2 (.int k n) = some (TV.int k n) := rfl
theorem zbdz (n0 : Nat) (s : ByteArray) : tfz τ n0 (.str s) = some (TV.str s) := rfl
theorem zclf (n0 : Nat) (s : ByteArray) : zah0 τ n0 2 (.str s) = some (TV.str s) := rfl
theorem zbm7 (n0 : Nat) (l : List TV) : tfz τ n0 (.sl l) = some (TV.sl l) := rfl
theorem zbd5 (n0 : Nat) (l : List TV) : zah0 τ n0 2 (.sl l) = some (TV.sl l) := rfl
theorem zbd2 (n0 : Nat) (k : Nat) (l : List TV) : tfz τ n0 (.sla k l) = some (TV.sl l) := rfl
theorem zcld (n0 : Nat) (k : Nat) (l : List TV) : zah0 τ n0 2 (.sla k l) = some (TV.sl l) := rfl
theorem zbd0 (n0 : Nat) : tfz τ n0 .slz = some (.sl []) := rfl
theorem zcle (n0 : Nat) : zah0 τ n0 2 .slz = some (.sl []) := rfl
theorem zbd1 (n0 id off n sz : Nat) : tfz τ n0 (.slm id off n sz) = zah0 τ n0 2 (.slm id off n sz) := rfl
theorem zbj8 (f : FuncId) (args : List Operand) : tG Γ dr (.callW f args) m d K fr tk τ = fi Γ false f (args.map fun a => (tO fr a).canT) d K fr tk τ := rfl
def cvK (Γ : FuncId → Option TG) (dr : Bool) (v : TV) (args : List TV) (d : Option Nat) (K : aq) (fr : TF) (tk : TK) (τ : TH) : Prop := match v with | .func f a b => fi Γ dr f (a ++ args ++ b) d K fr tk τ | _ => False
theorem zbj7 (x : Operand) (args : List Operand) : tG Γ dr (.callv x args) m d K fr tk τ = cvK Γ dr (tO fr x) (args.map fun a => (tO fr a).canT) d K fr tk τ := by unfold cvK; rfl
theorem zb4f (x : Operand) (args : List Operand) : tG Γ dr (.callvW x args) m d K fr tk τ = cvK Γ false (tO fr x) (args.map fun a => (tO fr a).canT) d K fr tk τ := by unfold cvK; rfl
theorem zbis (f : FuncId) (p q args : List TV) : cvK Γ dr (.func f p q) args d K fr tk τ = fi Γ dr f (p ++ args ++ q) d K fr tk τ := rfl
theorem zbgi (v : TV) : pK (some v) d K fr tk τ = K (ew fr d v) tk τ := rfl
theorem zbof (c : Prop) [Decidable c] (v : TV) : pK (if c then some v else none) d K fr tk τ = (c ∧ K (ew fr d v) tk τ) := by unfold pK; by_cases h : c <;> simp [h]
theorem zckd (v : TV) : opK (some (v,tk',τ')) d K fr = K (ew fr d v) tk' τ' := rfl
theorem zb2f (c : Prop) [Decidable c] (x : TV × TK × TH) : opK (if c then some x else none) d K fr = (c ∧ opK (some x) d K fr) := by unfold opK; by_cases h : c <;> simp [h]
theorem zbwl (x : Operand) : tG Γ dr (.mov x) 0 d K fr tk τ = K (ew fr d (tO fr x)) tk τ := rfl
theorem zbpm (x : Operand) : tG Γ dr (.mov x) 3 d K fr tk τ = K (ew fr d (tO fr x).canT) tk τ := rfl
def zbg4 (v : TV) (d : Option Nat) (K : aq) (fr : TF) (tk : TK) (τ : TH) : Prop := match v with | .slz => K (ew fr d (.sla tk.length [])) (tk ++ [some (0,0)]) τ | _ => False
theorem zbpn (x : Operand) : tG Γ dr (.mov x) 1 d K fr tk τ = zbg4 (tO fr x) d K fr tk τ := by unfold zbg4; simp only [tG,tOp,if_true]; cases tO fr x <;> rfl
theorem zci5 : zbg4 .slz d K fr tk τ = K (ew fr d (.sla tk.length [])) (tk ++ [some (0,0)]) τ := rfl
def zbrb (c a b : TV) : Option TV := match c with | .bool t => some (bif t then a else b) | _ => none
theorem iw (o : Option TV) : opK (o.map fun v => (v,tk,τ)) d K fr = pK o d K fr tk τ := by cases o <;> rfl
theorem zbpl (c a b : Operand) : tG Γ dr (.pick c a b) m d K fr tk τ = pK (zbrb (tO fr c) (tO fr a) (tO fr b)) d K fr tk τ := (iw d K fr tk τ (tP (.pick c a b) fr τ)).trans (by unfold zbrb; rfl)
theorem zbge (t : Bool) (v w : TV) : zbrb (.bool t) v w = some (bif t then v else w) := rfl
theorem zbj4 (x : Operand) : tG Γ dr (.load1 x) 0 d K fr tk τ = pK (ld1 τ (tO fr x)) d K fr tk τ := (iw d K fr tk τ (tP (.load1 x) fr τ)).trans (by unfold ld1; rfl)
theorem zbhz (id off : Nat) : ld1 τ (.ptr id off) = zbks τ id off := rfl
theorem zcjh (cs : List TV) (off : Nat) : ld1 τ (.rptr cs off) = cs[off]? := rfl
theorem zbj2 (n : Nat) (x : Operand) : tG Γ dr (.loadN n x) m d K fr tk τ = pK (ldN n τ (tO fr x)) d K fr tk τ := (iw d K fr tk τ (tP (.loadN n x) fr τ)).trans (by unfold ldN; rfl)
theorem zbhy (n id off : Nat) : ldN n τ (.ptr id off) = if n = 0 then none else (za8g τ id off n).map .agg := rfl
theorem zcji (n : Nat) (cs : List TV) (off : Nat) : ldN n τ (.rptr cs off) = if off + n ≤ cs.length then some (.agg ((cs.drop off).take n)) else none := rfl
def zbvi : TV → Option TV | .ptr id off => some (.ptr id off) | .rptr cs off => some (.rptr cs off) | .func f a b => some (.func f a b) | _ => none
theorem zb4j (x : Operand) : tG Γ dr (.nilchk x) m d K fr tk τ = pK (zbvi (tO fr x)) d K fr tk τ := (iw d K fr tk τ (tP (.nilchk x) fr τ)).trans (by unfold zbvi; rfl)
theorem zci4 (id off : Nat) : zbvi (.ptr id off) = some (.ptr id off) := rfl
theorem zcnj (cs : List TV) (off : Nat) : zbvi (.rptr cs off) = some (.rptr cs off) := rfl
theorem zcni (f : FuncId) (p q : List TV) : zbvi (.func f p q) = some (.func f p q) := rfl
theorem zbwr (op : BinOp) (x y : Operand) : tG Γ dr (.bin op x y) m d K fr tk τ = pK (a6 op (tO fr x) (tO fr y)) d K fr tk τ := (iw d K fr tk τ (tP (.bin op x y) fr τ)).trans (by rfl)
def eqb (neg : Bool) (p q : TV) : Option TV := match p,q with | .bool p,.bool q => some (.bool (bif neg then p != q else p == q)) | _,_ => none
theorem zbwp (neg : Bool) (x y : Operand) : tG Γ dr (.eqB neg x y) m d K fr tk τ = pK (eqb neg (tO fr x) (tO fr y)) d K fr tk τ := (iw d K fr tk τ (tP (.eqB neg x y) fr τ)).trans (by unfold eqb; rfl)
theorem zbo5 (neg p q : Bool) : eqb neg (.bool p) (.bool q) = some (.bool (bif neg then p != q else p == q)) := rfl
theorem zbj5 (k : NK) (neg : Bool) (x : Operand) : tG Γ dr (.isNil k neg x) m d K fr tk τ = pK ((zbbv k (tO fr x)).map fun b => .bool (bif neg then !b else b)) d K fr tk τ := (iw d K fr tk τ (tP (.isNil k neg x) fr τ)).trans (by rfl)
theorem zb8s  : zbbv .p (.nilP) = some true := rfl
theorem zb7t (i o : Nat) : zbbv .p (.ptr i o) = some false := rfl
theorem zb8t (c : List TV) (o : Nat) : zbbv .p (.rptr c o) = some false := rfl
theorem zb7v  : zbbv .s (.slz) = some true := rfl
theorem zb5l (v : TV) (l : List TV) : zbbv .s (.sl (v :: l)) = some false := rfl
theorem zb7u (i o n s : Nat) : zbbv .s (.slm i o n s) = some false := rfl
theorem zb8r  : zbbv .m (.nilM) = some true := rfl
theorem zb8q  : zbbv .f (.nilF) = some true := rfl
theorem zb8p (f : FuncId) (p q : List TV) : zbbv .f (.func f p q) = some false := rfl
theorem zcpa (op : UnOp) (x : Operand) : tG Γ dr (.un op x) m d K fr tk τ = pK (tun op (tO fr x)) d K fr tk τ := (iw d K fr tk τ (tP (.un op x) fr τ)).trans (by rfl)
def cnv (k : IntKind) : TV → Option TV | .int _ n => some (.int k (k.wrap n)) | _ => none
theorem zbpr (k : IntKind) (x : Operand) : tG Γ dr (.conv k x) m d K fr tk τ = pK (cnv k (tO fr x)) d K fr tk τ := (iw d K fr tk τ (tP (.conv k x) fr τ)).trans (by unfold cnv; rfl)
theorem zbiv (k j : IntKind) (n : Int) : cnv k (.int j n) = some (.int k (k.wrap n)) := rfl
def zb3f : TV → Option TV | .str s => some (.str s) | _ => none
theorem zbj6 (x : Operand) : tG Γ dr (.convS x) m d K fr tk τ = pK (zb3f (tO fr x)) d K fr tk τ := (iw d K fr tk τ (tP (.convS x) fr τ)).trans (by unfold zb3f; rfl)
theorem zch3 (s : ByteArray) : zb3f (.str s) = some (.str s) := rfl
def fad (off : Nat) : TV → Option TV | .ptr id o => some (.ptr id (o + off)) | .rptr cs o => some (.rptr cs (o + off)) | _ => none
theorem zb7w (off : Nat) (x : Operand) : tG Γ dr (.fieldAddr off x) 0 d K fr tk τ = pK (fad off (tO fr x)) d K fr tk τ := (iw d K fr tk τ (tP (.fieldAddr off x) fr τ)).trans (by unfold fad; rfl)
def lfO (b : Option Ob) (id o off : Nat) (d : Option Nat) (K : aq) (fr : TF) (tk : TK) (τ : TH) : Prop := match b with
 | some b => (τ.lock ≤ id ∧ b.cs ≠ []) ∧ K (ew (za87 id τ.next fr) d (.ptr τ.next (o + off))) tk ((τ.put id ⟨b.t,[]⟩).push b)
 | none => False
def lfK (off : Nat) (v : TV) (d : Option Nat) (K : aq) (fr : TF) (tk : TK) (τ : TH) : Prop := match v with | .ptr id o => lfO (τ.at id) id o off d K fr tk τ | _ => False
theorem zbeh (id n : Nat) (fr : TF) (x : Operand) : tO (za87 id n fr) x = ren id n (tO fr x) ∨ ∃ v,x = .const v := by
 cases x with
 | tmp t =>
  left
  induction fr with
  | nil => rfl
  | cons p r ih =>
   obtain ⟨k,v⟩ := p
   show lkp ((k,ren id n v) :: za87 id n r) t = ren id n (lkp ((k,v) :: r) t)
   simp only [lkp]
   by_cases h : t = k
   · rw [if_pos h,if_pos h]
   · rw [if_neg h,if_neg h]; exact ih
 | const v => exact .inr ⟨v,rfl⟩
 | func f => left; rfl
 | global g => left; rfl
theorem zbpo (off : Nat) (t : Nat) (h : lfK off (lkp fr t) d K fr tk τ) : tG Γ dr (.fieldAddr off (.tmp t)) 9 d K fr tk τ := by
 unfold lfK at h
 split at h
 · rename_i id o hz
   have hz' : tO fr (.tmp t) = .ptr id o := hz
   unfold lfO at h
   split at h
   · rename_i b hb
     obtain ⟨hc,h⟩ := h
     have e : pq (.fieldAddr off (.tmp t)) 9 fr τ = (za87 id τ.next fr,(τ.put id ⟨b.t,[]⟩).push b) := by
      unfold pq zbqh
      rw [if_pos rfl]
      simp only [hz',hb]
      rw [if_pos hc]
     simp only [tG,e]
     have e2 : tO (za87 id τ.next fr) (.tmp t) = .ptr τ.next o := by
      rcases zbeh id τ.next fr (.tmp t) with e2 | ⟨v,e2⟩
      · rw [e2,hz']; simp [ren]
      · cases e2
     simp only [tOp,tP,e2]
     exact h
   · exact h.elim
 · exact h.elim
theorem zbht (off id o : Nat) : lfK off (.ptr id o) d K fr tk τ = lfO (τ.at id) id o off d K fr tk τ := rfl
theorem zcis (id o off : Nat) (t : TypeId) (cs : List TV) : lfO (some ⟨t,cs⟩) id o off d K fr tk τ = ((τ.lock ≤ id ∧ cs ≠ []) ∧ K (ew (za87 id τ.next fr) d (.ptr τ.next (o + off))) tk ((τ.put id ⟨t,[]⟩).push ⟨t,cs⟩)) := rfl
theorem zckf (i n : Nat) : za87 i n [] = [] := rfl
theorem zb4o (i n k : Nat) (v : TV) (l : TF) : za87 i n ((k,v) :: l) = (k,ren i n v) :: za87 i n l := rfl
theorem zbfl (i n j o : Nat) : ren i n (.ptr j o) = if j = i then .ptr n o else .ptr j o := rfl
theorem zb4p (i n : Nat)  : ren i n (TV.undef ) = TV.undef  := rfl
theorem zckg (i n : Nat) (b : Bool) : ren i n (TV.bool b) = TV.bool b := rfl
theorem zbfm (i n : Nat) (k : IntKind) (x : Int) : ren i n (TV.int k x) = TV.int k x := rfl
theorem zbff (i n : Nat) (s : ByteArray) : ren i n (TV.str s) = TV.str s := rfl
theorem zckl (i n : Nat)  : ren i n (TV.nilP ) = TV.nilP  := rfl
theorem zckm (i n : Nat) (c : List TV) (o : Nat) : ren i n (TV.rptr c o) = TV.rptr c o := rfl
theorem zbfg (i n : Nat)  : ren i n (TV.slz ) = TV.slz  := rfl
theorem zbn2 (i n : Nat) (l : List TV) : ren i n (TV.sl l) = TV.sl l := rfl
theorem zbfk (i n : Nat) (k : Nat) (l : List TV) : ren i n (TV.sla k l) = TV.sla k l := rfl
theorem zbfj (i n : Nat) (k : Nat) (t : TypeId) : ren i n (TV.slb k t) = TV.slb k t := rfl
theorem zbfh (i n : Nat) (t : TypeId) (l : List TV) : ren i n (TV.slo t l) = TV.slo t l := rfl
theorem zbfi (i n : Nat) (j o n0 s : Nat) : ren i n (TV.slm j o n0 s) = TV.slm j o n0 s := rfl
theorem zckk (i n : Nat)  : ren i n (TV.nilM ) = TV.nilM  := rfl
theorem zcki (i n : Nat)  : ren i n (TV.nilF ) = TV.nilF  := rfl
theorem zckh (i n : Nat) (f : FuncId) (p q : List TV) : ren i n (TV.func f p q) = TV.func f p q := rfl
theorem zckj (i n : Nat)  : ren i n (TV.nilI ) = TV.nilI  := rfl
theorem zbfn (i n : Nat) (cs : List TV) : ren i n (TV.agg cs) = TV.agg cs := rfl
theorem zbfe (i n : Nat) (cs : List TV) : ren i n (TV.tup cs) = TV.tup cs := rfl
theorem zbip (off id o : Nat) : fad off (.ptr id o) = some (.ptr id (o + off)) := rfl
theorem zcib (off : Nat) (cs : List TV) (o : Nat) : fad off (.rptr cs o) = some (.rptr cs (o + off)) := rfl
def fl1 (off : Nat) : TV → Option TV | .agg cs => cs[off]? | _ => none
theorem zb4g (off : Nat) (x : Operand) : tG Γ dr (.field1 off x) m d K fr tk τ = pK (fl1 off (tO fr x)) d K fr tk τ := (iw d K fr tk τ (tP (.field1 off x) fr τ)).trans (by unfold fl1; rfl)
theorem zbin (off : Nat) (cs : List TV) : fl1 off (.agg cs) = cs[off]? := rfl
def flN (off n : Nat) : TV → Option TV | .agg cs => if off + n ≤ cs.length then some (.agg ((cs.drop off).take n)) else none | _ => none
theorem zb4h (off n : Nat) (x : Operand) : tG Γ dr (.fieldN off n x) m d K fr tk τ = pK (flN off n (tO fr x)) d K fr tk τ := (iw d K fr tk τ (tP (.fieldN off n x) fr τ)).trans (by unfold flN; rfl)
theorem zbim (off n : Nat) (cs : List TV) : flN off n (.agg cs) = if off + n ≤ cs.length then some (.agg ((cs.drop off).take n)) else none := rfl
def ixP (len sz : Nat) (x i : TV) : Option TV := match x,i with
 | .ptr id o,.int _ n => if 0 ≤ n ∧ n < len then some (.ptr id (o + n.toNat * sz)) else none
 | .rptr cs o,.int _ n => if 0 ≤ n ∧ n < len then some (.rptr cs (o + n.toNat * sz)) else none
 | _,_ => none
theorem zb5v (len sz : Nat) (x i : Operand) : tG Γ dr (.indexPtr len sz x i) m d K fr tk τ = pK (ixP len sz (tO fr x) (tO fr i)) d K fr tk τ := (iw d K fr tk τ (tP (.indexPtr len sz x i) fr τ)).trans (by unfold ixP; rfl)
theorem zbh8 (len sz id o : Nat) (k : IntKind) (n : Int) : ixP len sz (.ptr id o) (.int k n) = if 0 ≤ n ∧ n < len then some (.ptr id (o + n.toNat * sz)) else none := rfl
theorem zcje (len sz : Nat) (cs : List TV) (o : Nat) (k : IntKind) (n : Int) : ixP len sz (.rptr cs o) (.int k n) = if 0 ≤ n ∧ n < len then some (.rptr cs (o + n.toNat * sz)) else none := rfl
def ixS (sz : Nat) (x i : TV) : Option TV := match i with
 | .int _ n => (match x with
  | .slm id o len s => if 0 ≤ n ∧ n < len ∧ s = sz then some (.ptr id (o + n.toNat * sz)) else none
  | v => v.list.bind fun l => if 0 ≤ n ∧ n < l.length ∧ (l.getD n.toNat .undef).cells.length = sz then some (.rptr (l.getD n.toNat .undef).cells 0) else none)
 | _ => none
theorem zclz (sz : Nat) (x i : Operand) : tG Γ dr (.indexSl sz x i) m d K fr tk τ = pK (ixS sz (tO fr x) (tO fr i)) d K fr tk τ := (iw d K fr tk τ (tP (.indexSl sz x i) fr τ)).trans (by unfold ixS; rfl)
theorem zbox (sz : Nat) (l : List TV) (j : IntKind) (n : Int) : ixS sz (.sl l) (.int j n) = if 0 ≤ n ∧ n < l.length ∧ (l.getD n.toNat .undef).cells.length = sz then some (.rptr (l.getD n.toNat .undef).cells 0) else none := rfl
theorem zbh7 (sz : Nat) (k : Nat) (l : List TV) (j : IntKind) (n : Int) : ixS sz (.sla k l) (.int j n) = if 0 ≤ n ∧ n < l.length ∧ (l.getD n.toNat .undef).cells.length = sz then some (.rptr (l.getD n.toNat .undef).cells 0) else none := rfl
theorem zbh6 (sz id o len s : Nat) (j : IntKind) (n : Int) : ixS sz (.slm id o len s) (.int j n) = if 0 ≤ n ∧ n < len ∧ s = sz then some (.ptr id (o + n.toNat * sz)) else none := rfl
def ixT (x i : TV) : Option TV := match x,i with | .str s,.int _ n => if 0 ≤ n ∧ n < s.size then some (.int .u8 (s.data.getD n.toNat 0).toNat) else none | _,_ => none
theorem zb5w (x i : Operand) : tG Γ dr (.indexStr x i) m d K fr tk τ = pK (ixT (tO fr x) (tO fr i)) d K fr tk τ := (iw d K fr tk τ (tP (.indexStr x i) fr τ)).trans (by unfold ixT; rfl)
theorem zbvu (s : ByteArray) (k : IntKind) (n : Int) : ixT (.str s) (.int k n) = if 0 ≤ n ∧ n < s.size then some (.int .u8 (s.data.getD n.toNat 0).toNat) else none := rfl
def slT (x : TV) (lo hi : Option TV) : Option TV := match x with | .str s => (kg s.size lo hi).map fun lh => .str (s.extract lh.1 lh.2) | _ => none
theorem zb5x (x : Operand) (lo hi : Option Operand) : tG Γ dr (.sliceStr x lo hi) m d K fr tk τ = pK (slT (tO fr x) (lo.map (tO fr)) (hi.map (tO fr))) d K fr tk τ := (iw d K fr tk τ (tP (.sliceStr x lo hi) fr τ)).trans (by unfold slT; rfl)
theorem zbu3 (s : ByteArray) (lo hi : Option TV) : slT (.str s) lo hi = (kg s.size lo hi).map fun lh => .str (s.extract lh.1 lh.2) := rfl
def slS (sz : Nat) (x : TV) (lo hi : Option TV) : Option TV := match x with
 | .slm id o len s => if s = sz then (kg len lo hi).map fun lh => .slm id (o + lh.1 * sz) (lh.2 - lh.1) sz else none
 | .sl l => if l.all (fun e => e.cells.length == sz) && !l.isEmpty then (kg l.length lo hi).map fun lh => .sl ((l.take lh.2).drop lh.1) else none
 | .sla _ l => if l.all (fun e => e.cells.length == sz) && !l.isEmpty then (kg l.length lo hi).map fun lh => .sl ((l.take lh.2).drop lh.1) else none
 | _ => none
theorem zcl3 (sz : Nat) (x : Operand) (lo hi : Option Operand) : tG Γ dr (.sliceSl sz x lo hi) m d K fr tk τ = pK (slS sz (tO fr x) (lo.map (tO fr)) (hi.map (tO fr))) d K fr tk τ := (iw d K fr tk τ (tP (.sliceSl sz x lo hi) fr τ)).trans (by unfold slS; rfl)
theorem zbnx (sz : Nat) (l : List TV) (lo hi : Option TV) : slS sz (.sl l) lo hi = if l.all (fun e => e.cells.length == sz) && !l.isEmpty then (kg l.length lo hi).map fun lh => .sl ((l.take lh.2).drop lh.1) else none := rfl
theorem zbeu (sz k : Nat) (l : List TV) (lo hi : Option TV) : slS sz (.sla k l) lo hi = if l.all (fun e => e.cells.length == sz) && !l.isEmpty then (kg l.length lo hi).map fun lh => .sl ((l.take lh.2).drop lh.1) else none := rfl
theorem zbet (sz id o len s : Nat) (lo hi : Option TV) : slS sz (.slm id o len s) lo hi = if s = sz then (kg len lo hi).map fun lh => .slm id (o + lh.1 * sz) (lh.2 - lh.1) sz else none := rfl
theorem zbut (n : Nat) : kg n none none = some (0,n) := rfl
theorem zbuv (n : Nat) (k : IntKind) (l : Int) : kg n (some (.int k l)) none = if 0 ≤ l ∧ l ≤ n then some (l.toNat,n) else none := rfl
theorem zbuu (n : Nat) (k : IntKind) (h : Int) : kg n none (some (.int k h)) = if 0 ≤ h ∧ h ≤ n then some (0,h.toNat) else none := by unfold kg tHi; by_cases c : 0 ≤ h ∧ h ≤ n <;> simp [c,tLo]
theorem zbuw (n : Nat) (k j : IntKind) (l h : Int) : kg n (some (.int k l)) (some (.int j h)) = if (0 ≤ h ∧ h ≤ n) ∧ 0 ≤ l ∧ l ≤ h then some (l.toNat,h.toNat) else none := by
 unfold kg tHi
 by_cases c : 0 ≤ h ∧ h ≤ n
 · have e : ((h.toNat : Nat) : Int) = h := by omega
   simp only [c,and_self,if_true,Option.bind_some,tLo,e,true_and]
 · have c' : ¬ ((0 ≤ h ∧ h ≤ n) ∧ 0 ≤ l ∧ l ≤ h) := fun q => c q.1
   rw [if_neg c']
   simp [c]
theorem zbg7 {α β : Type} (c : Prop) [Decidable c] (x : α) (f : α → β) : (if c then some x else none : Option α).map f = if c then some (f x) else none := by by_cases h : c <;> simp [h]
def zb26 : TV → Option TV | .str s => some (.int .i64 s.size) | _ => none
theorem zbpp (x : Operand) : tG Γ dr (.lenS x) m d K fr tk τ = pK (zb26 (tO fr x)) d K fr tk τ := (iw d K fr tk τ (tP (.lenS x) fr τ)).trans (by unfold zb26; rfl)
theorem zbow (s : ByteArray) : zb26 (.str s) = some (.int .i64 s.size) := rfl
def zbtc : TV → Option TV | .slm _ _ n _ => some (.int .i64 n) | v => v.list.map fun l => .int .i64 l.length
theorem zbpq (x : Operand) : tG Γ dr (.lenL x) m d K fr tk τ = pK (zbtc (tO fr x)) d K fr tk τ := (iw d K fr tk τ (tP (.lenL x) fr τ)).trans (by unfold zbtc; rfl)
theorem zciq (id o n s : Nat) : zbtc (.slm id o n s) = some (.int .i64 n) := rfl
theorem zbhu (l : List TV) : zbtc (.sl l) = some (.int .i64 l.length) := rfl
theorem zcjj (k : Nat) (l : List TV) : zbtc (.sla k l) = some (.int .i64 l.length) := rfl
theorem zcir : zbtc .slz = some (.int .i64 0) := rfl
def zb23 (x y : TV) : Option TV := match x,y with | .int k a,.int _ b => some (.int k (if b < a then b else a)) | _,_ => none
theorem zbwm (x y : Operand) : tG Γ dr (.min x y) m d K fr tk τ = pK (zb23 (tO fr x) (tO fr y)) d K fr tk τ := (iw d K fr tk τ (tP (.min x y) fr τ)).trans (by unfold zb23; rfl)
theorem zboj (k j : IntKind) (a b : Int) : zb23 (.int k a) (.int j b) = some (.int k (if b < a then b else a)) := rfl
def zb25 (x y : TV) : Option TV := match x,y with | .int k a,.int _ b => some (.int k (if a < b then b else a)) | _,_ => none
theorem zbwn (x y : Operand) : tG Γ dr (.max x y) m d K fr tk τ = pK (zb25 (tO fr x) (tO fr y)) d K fr tk τ := (iw d K fr tk τ (tP (.max x y) fr τ)).trans (by unfold zb25; rfl)
theorem zbok (k j : IntKind) (a b : Int) : zb25 (.int k a) (.int j b) = some (.int k (if a < b then b else a)) := rfl
theorem zb4i (f : FuncId) (first captured : List Operand) : tG Γ dr (.mkFunc (.func f) first captured) m d K fr tk τ = K (ew fr d (.func f (first.map fun x => (tO fr x).canS) (captured.map fun x => (tO fr x).canS))) tk τ := rfl
def exT (i : Nat) : TV → Option TV | .tup cs => cs[i]? | _ => none
theorem zcly (x : Operand) (i : Nat) : tG Γ dr (.extract x i) m d K fr tk τ = pK (exT i (tO fr x)) d K fr tk τ := (iw d K fr tk τ (tP (.extract x i) fr τ)).trans (by unfold exT; rfl)
theorem zbv1 (i : Nat) (cs : List TV) : exT i (.tup cs) = cs[i]? := rfl
theorem zbka (zero : List Value) (parts : List (Nat × Nat × Operand)) : tG Γ dr (.build zero parts) m d K fr tk τ = pK ((zbmj (zero.map ofS) (parts.map fun p => (p.1,p.2.1,tO fr p.2.2))).map .agg) d K fr tk τ := (iw d K fr tk τ (tP (.build zero parts) fr τ)).trans (by rfl)
theorem zb41 (cs : List TV) : zbmj cs [] = some cs := rfl
theorem zb7s (cs : List TV) (off size : Nat) (v : TV) (r : List (Nat × Nat × TV)) : zbmj cs ((off,size,v) :: r) = if v.known = true ∧ v.cells.length = size ∧ off + size ≤ cs.length then zbmj (za8f cs off (v.cells.map TV.part)) r else none := rfl
theorem zbzd (cs : List TV) (off : Nat) : za8f cs off [] = cs := rfl
theorem zbzr (cs : List TV) (off : Nat) (v : TV) (r : List TV) : za8f cs off (v :: r) = za8f (cs.set off v) (off + 1) r := rfl
def zbs8 (τ : TH) : TV → Option TV | .slm id off n s => (if s = 1 then ((za8g τ id off n).bind yk).map fun bs => .str ⟨bs.toArray⟩ else none) | v => (v.list.bind yk).map fun bs => .str ⟨bs.toArray⟩
theorem zbj0 (x : Operand) : tG Γ dr (.toStr x) m d K fr tk τ = pK (zbs8 τ (tO fr x)) d K fr tk τ := (iw d K fr tk τ (tP (.toStr x) fr τ)).trans (by unfold zbs8; rfl)
theorem zcl5 (l : List TV) : zbs8 τ (.sl l) = (yk l).map fun bs => .str ⟨bs.toArray⟩ := rfl
theorem zb6f (k : Nat) (l : List TV) : zbs8 τ (.sla k l) = (yk l).map fun bs => .str ⟨bs.toArray⟩ := rfl
theorem zckv : zbs8 τ .slz = some (.str ⟨#[]⟩) := rfl
theorem zcku (id off n s : Nat) : zbs8 τ (.slm id off n s) = if s = 1 then ((za8g τ id off n).bind yk).map fun bs => .str ⟨bs.toArray⟩ else none := rfl
def ixA (len : Nat) (x i : TV) : Option TV := match x,i with | .agg cs,.int _ n => if 0 ≤ n ∧ n < len ∧ len ≤ cs.length then cs[n.toNat]? else none | _,_ => none
theorem zb5u (len : Nat) (x i : Operand) : tG Γ dr (.indexAgg len x i) m d K fr tk τ = pK (ixA len (tO fr x) (tO fr i)) d K fr tk τ := (iw d K fr tk τ (tP (.indexAgg len x i) fr τ)).trans (by unfold ixA; rfl)
theorem zbvv (len : Nat) (cs : List TV) (k : IntKind) (n : Int) : ixA len (.agg cs) (.int k n) = if 0 ≤ n ∧ n < len ∧ len ≤ cs.length then cs[n.toNat]? else none := rfl
def zb27 (len sz : Nat) (x i : TV) : Option TV := match x,i with | .agg cs,.int _ n => if 0 ≤ n ∧ n < len ∧ len * sz ≤ cs.length then some (.agg ((cs.drop (n.toNat * sz)).take sz)) else none | _,_ => none
theorem zb7x (len sz : Nat) (x i : Operand) : tG Γ dr (.indexAggN len sz x i) m d K fr tk τ = pK (zb27 len sz (tO fr x) (tO fr i)) d K fr tk τ := (iw d K fr tk τ (tP (.indexAggN len sz x i) fr τ)).trans (by unfold zb27; rfl)
theorem zboy (len sz : Nat) (cs : List TV) (k : IntKind) (n : Int) : zb27 len sz (.agg cs) (.int k n) = if 0 ≤ n ∧ n < len ∧ len * sz ≤ cs.length then some (.agg ((cs.drop (n.toNat * sz)).take sz)) else none := rfl
def eqA (neg : Bool) (ks : List FK) (x y : TV) : Option TV := match x,y with | .agg p,.agg q => (zbs6 ks p q).map fun b => .bool (bif neg then !b else b) | _,_ => none
theorem zbwo (neg : Bool) (ks : List FK) (x y : Operand) : tG Γ dr (.eqF neg ks x y) m d K fr tk τ = pK (eqA neg ks (tO fr x) (tO fr y)) d K fr tk τ := (iw d K fr tk τ (tP (.eqF neg ks x y) fr τ)).trans (by unfold eqA; rfl)
theorem zbv2 (neg : Bool) (ks : List FK) (p q : List TV) : eqA neg ks (.agg p) (.agg q) = (zbs6 ks p q).map fun b => .bool (bif neg then !b else b) := rfl
theorem zbwq (t n : Nat) (x : Operand) : tG Γ dr (.box t n x) m d K fr tk τ = (((tO fr x).cells.all TV.one = true ∧ fp τ.next ((tO fr x).cells.map TV.put) = true) ∧ K (ew fr d (.ptr τ.next 0)) tk (τ.push ⟨t,(tO fr x).cells.map TV.put⟩)) := zb2f d K fr _ _
def stK (n : Nat) (a x : TV) (d : Option Nat) (K : aq) (fr : TF) (tk : TK) (τ : TH) : Prop := match a with
 | .ptr id off => x.cells.length = n ∧ (match zbp1 τ id off (x.cells.map TV.put) with | some τ' => K (ew fr d (.tup [])) tk τ' | none => False)
 | _ => False
theorem zbj1 (n : Nat) (y x : Operand) : tG Γ dr (.store n y x) 0 d K fr tk τ = stK n (tO fr y) (tO fr x) d K fr tk τ := by
 have e0 : pq (.store n y x) 0 fr τ = (fr,τ) := rfl
 simp only [tG,e0,tOp,stK]
 cases tO fr y with
 | ptr id off =>
  by_cases h : (tO fr x).cells.length = n
  · simp only [h,if_true,true_and,show (0 : Nat) = 2 ↔ False from by decide,if_false]
    cases zbp1 τ id off ((tO fr x).cells.map TV.put) <;> rfl
  · simp [h,opK]
 | _ => rfl
def stB (o : Option Ob) (id off : Nat) (vs : List TV) (d : Option Nat) (K : aq) (fr : TF) (tk : TK) (τ : TH) : Prop := match o with
 | some b => (τ.lock ≤ id ∧ vs ≠ [] ∧ off + vs.length ≤ b.cs.length ∧ (vs.all TV.one = true) ∧ fp (id + 1) vs = true) ∧ K (ew fr d (.tup [])) tk (τ.put id ⟨b.t,za8f b.cs off vs⟩)
 | none => False
theorem zbmh (n t : Nat) (x : Operand) (id o : Nat) (T : TypeId) (cs : List TV) (hz : lkp fr t = .ptr id o) (hb : τ.at id = some ⟨T,cs⟩) (hc : τ.lock ≤ id ∧ cs ≠ []) (hx : ∀ v,x ≠ .const v)
 (h : stK n (.ptr τ.next o) (ren id τ.next (tO fr x)) d K (za87 id τ.next fr) tk ((τ.put id ⟨T,[]⟩).push ⟨T,cs⟩)) : tG Γ dr (.store n (.tmp t) x) 9 d K fr tk τ := by
 have hz' : tO fr (.tmp t) = .ptr id o := hz
 have e : pq (.store n (.tmp t) x) 9 fr τ = (za87 id τ.next fr,(τ.put id ⟨T,[]⟩).push ⟨T,cs⟩) := by
  unfold pq zbqh
  rw [if_pos rfl]
  simp only [hz',hb]
  rw [if_pos hc]
 have e2 : tO (za87 id τ.next fr) (.tmp t) = .ptr τ.next o := by
  rcases zbeh id τ.next fr (.tmp t) with e2 | ⟨v,e2⟩
  · rw [e2,hz']; simp [ren]
  · cases e2
 have e3 : tO (za87 id τ.next fr) x = ren id τ.next (tO fr x) := by
  rcases zbeh id τ.next fr x with e3 | ⟨v,e3⟩
  · exact e3
  · exact absurd e3 (hx v)
 simp only [tG,e,tOp,e2,e3]
 unfold stK at h
 simp only at h
 rw [if_neg (by decide),if_pos h.1]
 have h2 := h.2
 revert h2
 cases zbp1 ((τ.put id ⟨T,[]⟩).push ⟨T,cs⟩) τ.next o ((ren id τ.next (tO fr x)).cells.map TV.put) <;> exact fun h => h
theorem zber (n id off : Nat) (x : TV) : stK n (.ptr id off) x d K fr tk τ = (x.cells.length = n ∧ stB (τ.at id) id off (x.cells.map TV.put) d K fr tk τ) := by
 simp only [stK,stB,zbp1]
 cases τ.at id with
 | none => rfl
 | some b =>
  simp only [Option.bind_some]
  split
  · rename_i τ' h
    split at h
    · rename_i hc; injection h with h; subst h; simp only [hc,ne_eq,not_false_eq_true,and_self,true_and]
    · cases h
  · rename_i h
    split at h
    · cases h
    · rename_i hc; simp only [hc,false_and]
theorem zckt (t : TypeId) (cs : List TV) (id off : Nat) (vs : List TV) : stB (some ⟨t,cs⟩) id off vs d K fr tk τ = ((τ.lock ≤ id ∧ vs ≠ [] ∧ off + vs.length ≤ cs.length ∧ (vs.all TV.one = true) ∧ fp (id + 1) vs = true) ∧ K (ew fr d (.tup [])) tk (τ.put id ⟨t,za8f cs off vs⟩)) := rfl
def tkB (o : Option Ob) (id off : Nat) (d : Option Nat) (K : aq) (fr : TF) (tk : TK) (τ : TH) : Prop := match o with
 | some b => (match b.cs[off]? with | some (.slo t l) => τ.lock ≤ id ∧ K (ew fr d (.sla tk.length l)) (tk ++ [some (l.length,t)]) (τ.put id ⟨b.t,b.cs.set off (.sl l)⟩) | some .slz => τ.lock ≤ id ∧ K (ew fr d (.sla tk.length [])) (tk ++ [some (0,0)]) (τ.put id ⟨b.t,b.cs.set off (.sl [])⟩) | _ => False)
 | none => False
def tkK (x : TV) (d : Option Nat) (K : aq) (fr : TF) (tk : TK) (τ : TH) : Prop := match x with | .ptr id off => tkB (τ.at id) id off d K fr tk τ | _ => False
def tkC (t : TypeId) (cs : List TV) (id off : Nat) (v : Option TV) (d : Option Nat) (K : aq) (fr : TF) (tk : TK) (τ : TH) : Prop := match v with | some (.slo u l) => τ.lock ≤ id ∧ K (ew fr d (.sla tk.length l)) (tk ++ [some (l.length,u)]) (τ.put id ⟨t,cs.set off (.sl l)⟩) | some .slz => τ.lock ≤ id ∧ K (ew fr d (.sla tk.length [])) (tk ++ [some (0,0)]) (τ.put id ⟨t,cs.set off (.sl [])⟩) | _ => False
theorem zbj3 (x : Operand) : tG Γ dr (.load1 x) 2 d K fr tk τ = tkK (tO fr x) d K fr tk τ := by
 simp only [tG,tOp,tkK,if_true]
 cases tO fr x with
 | ptr id off =>
  simp only [tkB]
  cases τ.at id with
  | none => rfl
  | some b =>
   simp only [Option.bind_some]
   cases hq : b.cs[off]? with
   | none => rfl
   | some v =>
    cases v with
    | slo t l => by_cases h : τ.lock ≤ id <;> simp [h,opK]
    | slz => by_cases h : τ.lock ≤ id <;> simp [h,opK]
    | _ => rfl
 | _ => rfl
theorem zbdu (id off : Nat) : tkK (.ptr id off) d K fr tk τ = tkB (τ.at id) id off d K fr tk τ := rfl
theorem zclh (t : TypeId) (cs : List TV) (id off : Nat) : tkB (some ⟨t,cs⟩) id off d K fr tk τ = tkC t cs id off cs[off]? d K fr tk τ := rfl
theorem zclt (t : TypeId) (cs : List TV) (id off : Nat) : tkC t cs id off (some .slz) d K fr tk τ = (τ.lock ≤ id ∧ K (ew fr d (.sla tk.length [])) (tk ++ [some (0,0)]) (τ.put id ⟨t,cs.set off (.sl [])⟩)) := rfl
theorem zcls (t u : TypeId) (cs l : List TV) (id off : Nat) : tkC t cs id off (some (.slo u l)) d K fr tk τ = (τ.lock ≤ id ∧ K (ew fr d (.sla tk.length l)) (tk ++ [some (l.length,u)]) (τ.put id ⟨t,cs.set off (.sl l)⟩)) := rfl
def s2K (n : Nat) (a x : TV) (d : Option Nat) (K : aq) (fr : TF) (tk : TK) (τ : TH) : Prop := match a,x with
 | .ptr id off,.sla tok l => (match tk[tok]? with
  | some (some (k,t)) => (k = l.length ∧ n = 1) ∧ stB (τ.at id) id off [.slo t l] d K fr (tk.set tok none) τ
  | _ => False)
 | _,_ => False
def s2T (o : Option (Option (Nat × TypeId))) (n id off tok : Nat) (l : List TV) (d : Option Nat) (K : aq) (fr : TF) (tk : TK) (τ : TH) : Prop := match o with
 | some (some (k,t)) => (k = l.length ∧ n = 1) ∧ stB (τ.at id) id off [.slo t l] d K fr (tk.set tok none) τ
 | _ => False
theorem zb4k (n : Nat) (y x : Operand) : tG Γ dr (.store n y x) 2 d K fr tk τ = s2K n (tO fr y) (tO fr x) d K fr tk τ := by
 have e0 : pq (.store n y x) 2 fr τ = (fr,τ) := rfl
 simp only [tG,e0,tOp,s2K,if_true]
 cases tO fr y with
 | ptr id off =>
  cases tO fr x with
  | sla tok l =>
   simp only
   cases tk[tok]? with
   | none => rfl
   | some o =>
    cases o with
    | none => rfl
    | some p =>
     obtain ⟨k,t⟩ := p
     by_cases h : k = l.length ∧ n = 1
     · simp only [h,and_self,if_true,true_and,zbp1,stB]
       cases τ.at id with
       | none => rfl
       | some b =>
        simp only [Option.bind_some]
        by_cases hc : τ.lock ≤ id ∧ [TV.slo t l] ≠ [] ∧ off + [TV.slo t l].length ≤ b.cs.length ∧ ([TV.slo t l].all TV.one = true) ∧ fp (id + 1) [TV.slo t l] = true
        · rw [if_pos hc]; simp only [hc,ne_eq,not_false_eq_true,and_self,true_and]; rfl
        · rw [if_neg hc]; simp only [hc,false_and]; rfl
     · simp only [h,if_false,false_and]; rfl
  | _ => rfl
 | _ => rfl
theorem zbe3 (n id off tok : Nat) (l : List TV) : s2K n (.ptr id off) (.sla tok l) d K fr tk τ = s2T (tk[tok]?) n id off tok l d K fr tk τ := rfl
theorem zckp (n id off tok k t : Nat) (l : List TV) : s2T (some (some (k,t))) n id off tok l d K fr tk τ = ((k = l.length ∧ n = 1) ∧ stB (τ.at id) id off [.slo t l] d K fr (tk.set tok none) τ) := rfl
def bsO (m : Nat) (t sz : Nat) (o : Option (List TV)) (d : Option Nat) (K : aq) (fr : TF) (tk : TK) (τ : TH) : Prop := match o with | some l => (if m = 1 then K (ew fr d (.slm τ.next 0 l.length sz)) tk (τ.push ⟨t,l.flatMap TV.cells⟩) else if m = 2 then (l ≠ [] ∧ l.length ≤ maxLen) ∧ K (ew fr d (.sla tk.length l)) (tk ++ [some (l.length,t)]) τ else K (ew fr d (.sl l)) tk τ) | none => False
theorem zclx (t sz len : Nat) (zeros : List Value) (parts : List (Nat × Nat × Operand)) : tG Γ dr (.buildSl t sz len zeros parts) m d K fr tk τ = ((parts.length = len ∧ sz ≠ 0 ∧ zeros.length = len * sz) ∧ bsO m t sz (zbdj sz 0 (parts.map fun p => (p.1,p.2.1,tO fr p.2.2))) d K fr tk τ) := by
 simp only [tG,tOp,bsO]
 by_cases h : parts.length = len ∧ sz ≠ 0 ∧ zeros.length = len * sz
 · rw [if_pos h]
   cases zbdj sz 0 (parts.map fun p => (p.1,p.2.1,tO fr p.2.2)) with
   | none => exact propext ⟨False.elim,fun q => q.2⟩
   | some l =>
    simp only [Option.bind_some,and_iff_right h]
    by_cases h1 : m = 1
    · rw [if_pos h1,if_pos h1]; rfl
    · rw [if_neg h1,if_neg h1]
      by_cases h2 : m = 2
      · rw [if_pos h2,if_pos h2]
        by_cases h3 : l ≠ [] ∧ l.length ≤ maxLen
        · rw [if_pos h3]; exact propext ⟨fun q => ⟨h3,q⟩,fun q => q.2⟩
        · rw [if_neg h3]; exact propext ⟨False.elim,fun q => h3 q.1⟩
      · rw [if_neg h2,if_neg h2]; rfl
 · rw [if_neg h]; simp only [h,false_and]; rfl
theorem zbv9 (t sz : Nat) (l : List TV) : bsO 0 t sz (some l) d K fr tk τ = K (ew fr d (.sl l)) tk τ := rfl
theorem zbv8 (t sz : Nat) (l : List TV) : bsO 1 t sz (some l) d K fr tk τ = K (ew fr d (.slm τ.next 0 l.length sz)) tk (τ.push ⟨t,l.flatMap TV.cells⟩) := rfl
theorem zbv7 (t sz : Nat) (l : List TV) : bsO 2 t sz (some l) d K fr tk τ = ((l ≠ [] ∧ l.length ≤ maxLen) ∧ K (ew fr d (.sla tk.length l)) (tk ++ [some (l.length,t)]) τ) := rfl
theorem zb7r (sz i : Nat) : zbdj sz i [] = some [] := rfl
theorem zb8n (sz i off n : Nat) (v : TV) (r : List (Nat × Nat × TV)) : zbdj sz i ((off,n,v) :: r) = if off = i * sz ∧ n = sz ∧ v.canA.cells.length = sz ∧ v.canA.pure = true then (zbdj sz (i + 1) r).map (v.canA :: ·) else none := rfl
def msK (mu : Bool) (t bytes : Nat) (zero : List Value) (l c : TV) (d : Option Nat) (K : aq) (fr : TF) (tk : TK) (τ : TH) : Prop := match l,c with
 | .int _ n,.int _ k => (0 ≤ n ∧ n ≤ k ∧ k * bytes ≤ 140737488355328 ∧ k ≤ 9223372036854775807 ∧ zero.length ≠ 0 ∧ (zero.all fun z => (ofS z).canS.pureS) = true) ∧
  (bif mu then K (ew fr d (.slm τ.next 0 n.toNat zero.length)) tk (τ.push ⟨t,((List.replicate n.toNat (zero.map fun z => (ofS z).put)).flatten)⟩) else K (ew fr d (.sl (List.replicate n.toNat (zbbo (zero.map fun z => (ofS z).canS))))) tk τ)
 | _,_ => False
theorem zcl0 (t bytes : Nat) (zero : List Value) (l c : Operand) : tG Γ dr (.makeSl t bytes zero l c) 0 d K fr tk τ = msK false t bytes zero (tO fr l) (tO fr c) d K fr tk τ := by
 simp only [tG,tOp,msK]
 cases tO fr l with
 | int k1 n =>
  cases tO fr c with
  | int k2 k =>
   simp only
   by_cases h : 0 ≤ n ∧ n ≤ k ∧ k * bytes ≤ 140737488355328 ∧ k ≤ 9223372036854775807 ∧ zero.length ≠ 0 ∧ (zero.all fun z => (ofS z).canS.pureS) = true
   · rw [if_pos h]; simp only [h,ne_eq,not_false_eq_true,and_self,true_and]; rfl
   · rw [if_neg h]; simp only [h,false_and]; rfl
  | _ => rfl
 | _ => rfl
theorem zcl1 (t bytes : Nat) (zero : List Value) (l c : Operand) : tG Γ dr (.makeSl t bytes zero l c) 1 d K fr tk τ = msK true t bytes zero (tO fr l) (tO fr c) d K fr tk τ := by
 simp only [tG,tOp,msK]
 cases tO fr l with
 | int k1 n =>
  cases tO fr c with
  | int k2 k =>
   simp only
   by_cases h : 0 ≤ n ∧ n ≤ k ∧ k * bytes ≤ 140737488355328 ∧ k ≤ 9223372036854775807 ∧ zero.length ≠ 0 ∧ (zero.all fun z => (ofS z).canS.pureS) = true
   · rw [if_pos h]; simp only [h,ne_eq,not_false_eq_true,and_self,true_and]; rfl
   · rw [if_neg h]; simp only [h,false_and]; rfl
  | _ => rfl
 | _ => rfl
def msA (t bytes : Nat) (zero : List Value) (l c : TV) (d : Option Nat) (K : aq) (fr : TF) (tk : TK) (τ : TH) : Prop := match l,c with
 | .int _ n,.int _ k => (0 ≤ n ∧ n ≤ k ∧ k * bytes ≤ 140737488355328 ∧ k ≤ 9223372036854775807 ∧ zero.length ≠ 0 ∧ (zero.all fun z => (ofS z).canS.pureS) = true) ∧ (n = 0 ∧ zero.length = 1) ∧ K (ew fr d (.slb tk.length t)) (tk ++ [some (0,t)]) τ
 | _,_ => False
theorem zcl2 (t bytes : Nat) (zero : List Value) (l c : Operand) : tG Γ dr (.makeSl t bytes zero l c) 2 d K fr tk τ = msA t bytes zero (tO fr l) (tO fr c) d K fr tk τ := by
 simp only [tG,tOp,msA]
 cases tO fr l with
 | int k1 n =>
  cases tO fr c with
  | int k2 k =>
   simp only
   by_cases h : 0 ≤ n ∧ n ≤ k ∧ k * bytes ≤ 140737488355328 ∧ k ≤ 9223372036854775807 ∧ zero.length ≠ 0 ∧ (zero.all fun z => (ofS z).canS.pureS) = true
   · rw [if_pos h,if_neg (by decide),if_pos trivial]
     by_cases h2 : n = 0 ∧ zero.length = 1
     · rw [if_pos h2]; exact propext ⟨fun q => ⟨h,h2,q⟩,fun q => q.2.2⟩
     · rw [if_neg h2]; exact propext ⟨False.elim,fun q => h2 q.2.1⟩
   · rw [if_neg h]; simp only [h,false_and]; rfl
  | _ => rfl
 | _ => rfl
theorem zbvk (t bytes : Nat) (zero : List Value) (j1 j2 : IntKind) (n k : Int) : msA t bytes zero (.int j1 n) (.int j2 k) d K fr tk τ = ((0 ≤ n ∧ n ≤ k ∧ k * bytes ≤ 140737488355328 ∧ k ≤ 9223372036854775807 ∧ zero.length ≠ 0 ∧ (zero.all fun z => (ofS z).canS.pureS) = true) ∧ (n = 0 ∧ zero.length = 1) ∧ K (ew fr d (.slb tk.length t)) (tk ++ [some (0,t)]) τ) := rfl
theorem zbvj (mu : Bool) (t bytes : Nat) (zero : List Value) (j1 j2 : IntKind) (n k : Int) : msK mu t bytes zero (.int j1 n) (.int j2 k) d K fr tk τ = ((0 ≤ n ∧ n ≤ k ∧ k * bytes ≤ 140737488355328 ∧ k ≤ 9223372036854775807 ∧ zero.length ≠ 0 ∧ (zero.all fun z => (ofS z).canS.pureS) = true) ∧ (bif mu then K (ew fr d (.slm τ.next 0 n.toNat zero.length)) tk (τ.push ⟨t,((List.replicate n.toNat (zero.map fun z => (ofS z).put)).flatten)⟩) else K (ew fr d (.sl (List.replicate n.toNat (zbbo (zero.map fun z => (ofS z).canS))))) tk τ)) := rfl
def apK (t sz bytes : Nat) (s : TV) (o : Option (List TV)) (d : Option Nat) (K : aq) (fr : TF) (tk : TK) (τ : TH) : Prop := match o with
 | some xs => (match zbby t sz bytes s xs tk with | some (v,tk') => K (ew fr d v) tk' τ | none => False)
 | none => False
def apT (o : Option (Option (Nat × TypeId))) (t sz bytes tok : Nat) (l xs : List TV) (d : Option Nat) (K : aq) (fr : TF) (tk : TK) (τ : TH) : Prop := match o with
 | some (some (n,t')) => ((xs.all (fun e => e.cells.length == sz && e.pure) = true ∧ xs.length * bytes ≤ 140737488355328 ∧ xs.length ≤ maxLen) ∧ n = l.length ∧ (n = 0 ∨ t' = t) ∧ (l.all (fun e => e.cells.length == sz) = true) ∧ (l.length + xs.length) * bytes ≤ 140737488355328 ∧ l.length + xs.length ≤ maxLen) ∧
  K (ew fr d (.sla tok (l ++ xs))) (tk.set tok (some (l.length + xs.length,t))) τ
 | _ => False
theorem zb4e (t sz bytes : Nat) (s x : Operand) : tG Γ dr (.append t sz bytes s x) 0 d K fr tk τ = (sz ≠ 0 ∧ apK t sz bytes (tO fr s) (tO fr x).list d K fr tk τ) := by
 simp only [tG,tOp,apK]
 by_cases h : sz = 0
 · simp [h,opK]
 · simp only [h,if_false,ne_eq,not_false_eq_true,true_and]
   cases (tO fr x).list with
   | none => rfl
   | some xs =>
    simp only [Option.bind_some,show (0 : Nat) = 1 ↔ False from by decide,if_false]
    cases zbby t sz bytes (tO fr s) xs tk <;> rfl
def amK (t sz bytes : Nat) (s : TV) (o : Option (List TV)) (d : Option Nat) (K : aq) (fr : TF) (tk : TK) (τ : TH) : Prop := match o with
 | some xs => (match zbbx t sz bytes s xs τ with | some (v,τ') => K (ew fr d v) tk τ' | none => False)
 | none => False
def amO (b : Option Ob) (t sz bytes id n : Nat) (xs : List TV) (d : Option Nat) (K : aq) (fr : TF) (tk : TK) (τ : TH) : Prop := match b with
 | some b => (b.t = t ∧ b.cs.length = n * sz ∧ n ≠ 0 ∧ τ.lock ≤ id ∧ (n + xs.length) * bytes ≤ 140737488355328 ∧ n + xs.length ≤ maxLen) ∧ K (ew fr d (.slm τ.next 0 (n + xs.length) sz)) tk ((τ.put id ⟨t,[]⟩).push ⟨t,b.cs ++ xs.flatMap TV.cells⟩)
 | none => False
theorem zclu (t sz bytes : Nat) (s x : Operand) : tG Γ dr (.append t sz bytes s x) 1 d K fr tk τ = (sz ≠ 0 ∧ amK t sz bytes (tO fr s) (tO fr x).list d K fr tk τ) := by
 simp only [tG,tOp,amK]
 by_cases h : sz = 0
 · simp [h,opK]
 · simp only [h,if_false,ne_eq,not_false_eq_true,true_and]
   cases (tO fr x).list with
   | none => rfl
   | some xs =>
    simp only [Option.bind_some,if_true]
    cases zbbx t sz bytes (tO fr s) xs τ <;> rfl
theorem zbjh (t sz bytes : Nat) (xs : List TV) : amK t sz bytes .slz (some xs) d K fr tk τ = ((xs ≠ [] ∧ xs.all (fun e => e.cells.length == sz && e.pure) = true) ∧ (xs.length * bytes ≤ 140737488355328 ∧ xs.length ≤ maxLen) ∧ K (ew fr d (.slm τ.next 0 xs.length sz)) tk (τ.push ⟨t,xs.flatMap TV.cells⟩)) := by
 simp only [amK,zbbx]
 by_cases h : xs ≠ [] ∧ xs.all (fun e => e.cells.length == sz && e.pure) = true
 · rw [if_pos h]
   by_cases h2 : xs.length * bytes ≤ 140737488355328 ∧ xs.length ≤ maxLen
   · rw [if_pos h2]; exact propext ⟨fun q => ⟨h,h2,q⟩,fun q => q.2.2⟩
   · rw [if_neg h2]; exact propext ⟨False.elim,fun q => h2 q.2.1⟩
 · rw [if_neg h]; exact propext ⟨False.elim,fun q => h q.1⟩
theorem zbji (t sz bytes id n : Nat) (xs : List TV) : amK t sz bytes (.slm id 0 n sz) (some xs) d K fr tk τ = ((xs ≠ [] ∧ xs.all (fun e => e.cells.length == sz && e.pure) = true) ∧ amO (τ.at id) t sz bytes id n xs d K fr tk τ) := by
 simp only [amK,zbbx,amO]
 by_cases h : xs ≠ [] ∧ xs.all (fun e => e.cells.length == sz && e.pure) = true
 · rw [if_pos h]
   cases τ.at id with
   | none => exact propext ⟨False.elim,fun q => q.2⟩
   | some b =>
    simp only [Option.bind_some,true_and]
    by_cases h2 : b.t = t ∧ b.cs.length = n * sz ∧ n ≠ 0 ∧ τ.lock ≤ id ∧ (n + xs.length) * bytes ≤ 140737488355328 ∧ n + xs.length ≤ maxLen
    · rw [if_pos h2]; exact propext ⟨fun q => ⟨h,h2,q⟩,fun q => q.2.2⟩
    · rw [if_neg h2]; exact propext ⟨False.elim,fun q => h2 q.2.1⟩
 · rw [if_neg h]; exact propext ⟨False.elim,fun q => h q.1⟩
theorem zb3p (t u sz bytes id n : Nat) (cs xs : List TV) : amO (some ⟨u,cs⟩) t sz bytes id n xs d K fr tk τ = ((u = t ∧ cs.length = n * sz ∧ n ≠ 0 ∧ τ.lock ≤ id ∧ (n + xs.length) * bytes ≤ 140737488355328 ∧ n + xs.length ≤ maxLen) ∧ K (ew fr d (.slm τ.next 0 (n + xs.length) sz)) tk ((τ.put id ⟨t,[]⟩).push ⟨t,cs ++ xs.flatMap TV.cells⟩)) := rfl
def atK (t sz bytes : Nat) (s : TV) (o : Option (List TV)) (d : Option Nat) (K : aq) (fr : TF) (tk : TK) (τ : TH) : Prop := match o with
 | some xs => (match zbec t sz bytes s xs τ with | some (v,τ') => K (ew fr d v) tk τ' | none => False)
 | none => False
def atO (b : Option Ob) (t sz bytes id n : Nat) (xs : List TV) (d : Option Nat) (K : aq) (fr : TF) (tk : TK) (τ : TH) : Prop := match b with
 | some b => (b.t = t ∧ n * sz ≤ b.cs.length ∧ b.cs ≠ [] ∧ τ.lock ≤ id ∧ (n + xs.length) * bytes ≤ 140737488355328 ∧ n + xs.length ≤ maxLen) ∧ K (ew fr d (.slm τ.next 0 (n + xs.length) sz)) tk ((τ.put id ⟨t,[]⟩).push ⟨t,b.cs.take (n * sz) ++ xs.flatMap TV.cells⟩)
 | none => False
theorem zclv (t sz bytes : Nat) (s x : Operand) : tG Γ dr (.append t sz bytes s x) 4 d K fr tk τ = (sz ≠ 0 ∧ atK t sz bytes (tO fr s) (tO fr x).list d K fr tk τ) := by
 simp only [tG,tOp,atK]
 by_cases h : sz = 0
 · simp [h,opK]
 · simp only [h,if_false,ne_eq,not_false_eq_true,true_and]
   cases (tO fr x).list with
   | none => rfl
   | some xs =>
    simp only [Option.bind_some,if_true]
    cases zbec t sz bytes (tO fr s) xs τ <;> rfl
theorem zbi8 (t sz bytes id n : Nat) (xs : List TV) : atK t sz bytes (.slm id 0 n sz) (some xs) d K fr tk τ = ((xs ≠ [] ∧ xs.all (fun e => e.cells.length == sz && e.pure) = true) ∧ atO (τ.at id) t sz bytes id n xs d K fr tk τ) := by
 simp only [atK,zbec,atO]
 by_cases h : xs ≠ [] ∧ xs.all (fun e => e.cells.length == sz && e.pure) = true
 · rw [if_pos h]
   cases τ.at id with
   | none => exact propext ⟨False.elim,fun q => q.2⟩
   | some b =>
    simp only [Option.bind_some,true_and]
    by_cases h2 : b.t = t ∧ n * sz ≤ b.cs.length ∧ b.cs ≠ [] ∧ τ.lock ≤ id ∧ (n + xs.length) * bytes ≤ 140737488355328 ∧ n + xs.length ≤ maxLen
    · rw [if_pos h2]; exact propext ⟨fun q => ⟨h,h2,q⟩,fun q => q.2.2⟩
    · rw [if_neg h2]; exact propext ⟨False.elim,fun q => h2 q.2.1⟩
 · rw [if_neg h]; exact propext ⟨False.elim,fun q => h q.1⟩
theorem zb3v (t u sz bytes id n : Nat) (cs xs : List TV) : atO (some ⟨u,cs⟩) t sz bytes id n xs d K fr tk τ = ((u = t ∧ n * sz ≤ cs.length ∧ cs ≠ [] ∧ τ.lock ≤ id ∧ (n + xs.length) * bytes ≤ 140737488355328 ∧ n + xs.length ≤ maxLen) ∧ K (ew fr d (.slm τ.next 0 (n + xs.length) sz)) tk ((τ.put id ⟨t,[]⟩).push ⟨t,cs.take (n * sz) ++ xs.flatMap TV.cells⟩)) := rfl
theorem zbje (t sz bytes : Nat) (xs : List TV) : apK t sz bytes .slz (some xs) d K fr tk τ = ((xs.all (fun e => e.cells.length == sz && e.pure) = true ∧ xs.length * bytes ≤ 140737488355328 ∧ xs.length ≤ maxLen) ∧ K (ew fr d (.sla tk.length xs)) (tk ++ [some (xs.length,t)]) τ) := by
 simp only [apK,zbby]
 by_cases h : xs.all (fun e => e.cells.length == sz && e.pure) = true ∧ xs.length * bytes ≤ 140737488355328 ∧ xs.length ≤ maxLen
 · rw [if_pos h]; simp only [h,and_self,true_and]
 · rw [if_neg h]; simp only [h,false_and]
theorem zbjg (t sz bytes tok : Nat) (l xs : List TV) : apK t sz bytes (.sla tok l) (some xs) d K fr tk τ = apT (tk[tok]?) t sz bytes tok l xs d K fr tk τ := by
 simp only [apK,zbby,apT]
 by_cases h : xs.all (fun e => e.cells.length == sz && e.pure) = true ∧ xs.length * bytes ≤ 140737488355328 ∧ xs.length ≤ maxLen
 · rw [if_pos h]
   cases tk[tok]? with
   | none => rfl
   | some o =>
    cases o with
    | none => rfl
    | some p =>
     obtain ⟨n,t'⟩ := p
     simp only
     by_cases h2 : n = l.length ∧ (n = 0 ∨ t' = t) ∧ (l.all (fun e => e.cells.length == sz) = true) ∧ (l.length + xs.length) * bytes ≤ 140737488355328 ∧ l.length + xs.length ≤ maxLen
     · rw [if_pos h2]; exact propext ⟨fun q => ⟨⟨h,h2⟩,q⟩,fun q => q.2⟩
     · rw [if_neg h2]; simp only [h2,and_false,false_and]
 · rw [if_neg h]
   cases tk[tok]? with
   | none => rfl
   | some o =>
    cases o with
    | none => rfl
    | some p => simp only [h,false_and]
theorem zb3r (n t' t sz bytes tok : Nat) (l xs : List TV) : apT (some (some (n,t'))) t sz bytes tok l xs d K fr tk τ = (((xs.all (fun e => e.cells.length == sz && e.pure) = true ∧ xs.length * bytes ≤ 140737488355328 ∧ xs.length ≤ maxLen) ∧ n = l.length ∧ (n = 0 ∨ t' = t) ∧ (l.all (fun e => e.cells.length == sz) = true) ∧ (l.length + xs.length) * bytes ≤ 140737488355328 ∧ l.length + xs.length ≤ maxLen) ∧ K (ew fr d (.sla tok (l ++ xs))) (tk.set tok (some (l.length + xs.length,t))) τ) := rfl
def apB (o : Option (Option (Nat × TypeId))) (t sz bytes tok t0 : Nat) (xs : List TV) (d : Option Nat) (K : aq) (fr : TF) (tk : TK) (τ : TH) : Prop := match o with
 | some (some (n,t')) => ((xs.all (fun e => e.cells.length == sz && e.pure) = true ∧ xs.length * bytes ≤ 140737488355328 ∧ xs.length ≤ maxLen) ∧ n = 0 ∧ t0 = t ∧ sz = 1 ∧ xs ≠ []) ∧
  K (ew fr d (.sla tok xs)) (tk.set tok (some (xs.length,t))) τ
 | _ => False
theorem zbjf (t sz bytes tok t0 : Nat) (xs : List TV) : apK t sz bytes (.slb tok t0) (some xs) d K fr tk τ = apB (tk[tok]?) t sz bytes tok t0 xs d K fr tk τ := by
 simp only [apK,zbby,apB]
 by_cases h : xs.all (fun e => e.cells.length == sz && e.pure) = true ∧ xs.length * bytes ≤ 140737488355328 ∧ xs.length ≤ maxLen
 · rw [if_pos h]
   cases tk[tok]? with
   | none => rfl
   | some o =>
    cases o with
    | none => rfl
    | some p =>
     obtain ⟨n,t'⟩ := p
     simp only
     by_cases h2 : n = 0 ∧ t0 = t ∧ sz = 1 ∧ xs ≠ []
     · rw [if_pos h2]; exact propext ⟨fun q => ⟨⟨h,h2⟩,q⟩,fun q => q.2⟩
     · rw [if_neg h2]; simp only [h2,and_false,false_and]
 · rw [if_neg h]
   cases tk[tok]? with
   | none => rfl
   | some o =>
    cases o with
    | none => rfl
    | some p => simp only [h,false_and]
theorem zb3q (n t' t sz bytes tok t0 : Nat) (xs : List TV) : apB (some (some (n,t'))) t sz bytes tok t0 xs d K fr tk τ = (((xs.all (fun e => e.cells.length == sz && e.pure) = true ∧ xs.length * bytes ≤ 140737488355328 ∧ xs.length ≤ maxLen) ∧ n = 0 ∧ t0 = t ∧ sz = 1 ∧ xs ≠ []) ∧ K (ew fr d (.sla tok xs)) (tk.set tok (some (xs.length,t))) τ) := rfl
def asK (t : Nat) (s x : TV) (d : Option Nat) (K : aq) (fr : TF) (tk : TK) (τ : TH) : Prop := match x with | .str b => apK t 1 1 s (some (er b)) d K fr tk τ | _ => False
theorem zclw (t : Nat) (s x : Operand) : tG Γ dr (.appendS t s x) m d K fr tk τ = asK t (tO fr s) (tO fr x) d K fr tk τ := by
 simp only [tG,tOp,asK,apK]
 cases tO fr x with
 | str b => simp only; cases zbby t 1 1 (tO fr s) (er b) tk <;> rfl
 | _ => rfl
theorem zbwb (t : Nat) (s : TV) (b : ByteArray) : asK t s (.str b) d K fr tk τ = apK t 1 1 s (some (er b)) d K fr tk τ := rfl
def tbK (mu : Bool) (t : Nat) (x : TV) (d : Option Nat) (K : aq) (fr : TF) (tk : TK) (τ : TH) : Prop := match x with | .str s => (bif mu then K (ew fr d (.slm τ.next 0 s.size 1)) tk (τ.push ⟨t,er s⟩) else K (ew fr d (.sl (er s))) tk τ) | _ => False
theorem zb5y (t : Nat) (x : Operand) : tG Γ dr (.toBytes t x) 0 d K fr tk τ = tbK false t (tO fr x) d K fr tk τ := by
 simp only [tG,tOp,tbK]
 cases tO fr x <;> rfl
theorem zb5z (t : Nat) (x : Operand) : tG Γ dr (.toBytes t x) 1 d K fr tk τ = tbK true t (tO fr x) d K fr tk τ := by
 simp only [tG,tOp,tbK]
 cases tO fr x <;> rfl
def tbA (t : Nat) (x : TV) (d : Option Nat) (K : aq) (fr : TF) (tk : TK) (τ : TH) : Prop := match x with | .str s => K (ew fr d (if s.size = 0 then .slb tk.length t else .sla tk.length (er s))) (tk ++ [some (s.size,t)]) τ | _ => False
theorem zb50 (t : Nat) (x : Operand) : tG Γ dr (.toBytes t x) 2 d K fr tk τ = tbA t (tO fr x) d K fr tk τ := by
 simp only [tG,tOp,tbA]
 cases tO fr x <;> rfl
theorem zbuy (t : Nat) (s : ByteArray) : tbA t (.str s) d K fr tk τ = K (ew fr d (if s.size = 0 then .slb tk.length t else .sla tk.length (er s))) (tk ++ [some (s.size,t)]) τ := rfl
theorem zbux (mu : Bool) (t : Nat) (s : ByteArray) : tbK mu t (.str s) d K fr tk τ = (bif mu then K (ew fr d (.slm τ.next 0 s.size 1)) tk (τ.push ⟨t,er s⟩) else K (ew fr d (.sl (er s))) tk τ) := rfl
theorem zbwj (t : Nat) : tO fr (.tmp t) = lkp fr t := rfl
theorem zbpi (k : IntKind) (n : Int) : tO fr (.const (.int k n)) = .int k n := rfl
theorem zbjz (c : Bool) : tO fr (.const (.bool c)) = .bool c := rfl
theorem zbph (s : ByteArray) : tO fr (.const (.string s)) = .str s := rfl
theorem zbjv : tO fr (.const (.pointer none)) = .nilP := rfl
theorem zbju : tO fr (.const (.slice none 0 0)) = .slz := rfl
theorem zbjw : tO fr (.const (.map none)) = .nilM := rfl
theorem zbjy : tO fr (.const .nilFunc) = .nilF := rfl
theorem zbjx : tO fr (.const .nilIface) = .nilI := rfl
theorem zbpg (f : FuncId) : tO fr (.func f) = .func f [] [] := rfl
theorem zbpj (cs : List Value) : tO fr (.const (.agg cs.toArray)) = .agg (cs.map ofS) := rfl
theorem zbg1 (k : IntKind) (n : Int) : ofS (.int k n) = .int k n := rfl
theorem zci8 (c : Bool) : ofS (.bool c) = .bool c := rfl
theorem zbg0 (s : ByteArray) : ofS (.string s) = .str s := rfl
theorem zcj4 : ofS (.pointer none) = .nilP := rfl
theorem zcj5 : ofS (.slice none 0 0) = .slz := rfl
theorem zcjb : ofS (.map none) = .nilM := rfl
theorem zci9 : ofS .nilFunc = .nilF := rfl
theorem zcja : ofS .nilIface = .nilI := rfl
theorem zbhq (t : Nat) (v : TV) (l : TF) : lkp ((t,v) :: l) t = v := by simp [lkp]
theorem zciw (t k : Nat) (v : TV) (l : TF) (h : (t = k) = False) : lkp ((k,v) :: l) t = lkp l t := by simp [lkp,h]
theorem zb5n (t : Nat) (v : TV) : ew fr (some t) v = (t,v) :: fr := rfl
theorem zb5m (v : TV) : ew fr none v = fr := rfl
theorem zbny : sel lv fr = lv.map fun t => (t,lkp fr t) := rfl
theorem zb3u (k : Nat) : zbkn k [] = [] := rfl
theorem zcmw (k : Nat) (v : TV) (l : List TV) : zbkn k (v :: l) = (k,v) :: zbkn (k + 1) l := rfl
end
theorem zb72   : TV.cells  TV.undef = [TV.undef ] := rfl
theorem zb58  (b : Bool) : TV.cells  (TV.bool b) = [TV.bool b] := rfl
theorem zcms  (k : IntKind) (n : Int) : TV.cells  (TV.int k n) = [TV.int k n] := rfl
theorem zcm9  (s : ByteArray) : TV.cells  (TV.str s) = [TV.str s] := rfl
theorem zb6d   : TV.cells  TV.nilP = [TV.nilP ] := rfl
theorem zcmt  (id off : Nat) : TV.cells  (TV.ptr id off) = [TV.ptr id off] := rfl
theorem zb6e  (cs : List TV) (off : Nat) : TV.cells  (TV.rptr cs off) = [TV.rptr cs off] := rfl
theorem zcm8   : TV.cells  TV.slz = [TV.slz ] := rfl
theorem zch2  (l : List TV) : TV.cells  (TV.sl l) = [TV.sl l] := rfl
theorem zcmu  (k : Nat) (l : List TV) : TV.cells  (TV.sla k l) = [TV.sla k l] := rfl
theorem zcm5  (k : Nat) (t : TypeId) : TV.cells  (TV.slb k t) = [TV.slb k t] := rfl
theorem zcm7  (t : TypeId) (l : List TV) : TV.cells  (TV.slo t l) = [TV.slo t l] := rfl
theorem zcm6  (id off n sz : Nat) : TV.cells  (TV.slm id off n sz) = [TV.slm id off n sz] := rfl
theorem zb6c   : TV.cells  TV.nilM = [TV.nilM ] := rfl
theorem zb6a   : TV.cells  TV.nilF = [TV.nilF ] := rfl
theorem zb59  (f : FuncId) (a b : List TV) : TV.cells  (TV.func f a b) = [TV.func f a b] := rfl
theorem zb6b   : TV.cells  TV.nilI = [TV.nilI ] := rfl
theorem zcmr  (cs : List TV) : TV.cells  (TV.agg cs) = cs := rfl
theorem zcna  (cs : List TV) : TV.cells  (TV.tup cs) = [TV.tup cs] := rfl
theorem zcnk   : TV.one  TV.undef = false := rfl
theorem zcj6  (b : Bool) : TV.one  (TV.bool b) = true := rfl
theorem zbgs  (k : IntKind) (n : Int) : TV.one  (TV.int k n) = true := rfl
theorem zbgl  (s : ByteArray) : TV.one  (TV.str s) = true := rfl
theorem zckb   : TV.one  TV.nilP = true := rfl
theorem zbgr  (id off : Nat) : TV.one  (TV.ptr id off) = true := rfl
theorem zckc  (cs : List TV) (off : Nat) : TV.one  (TV.rptr cs off) = false := rfl
theorem zbgm   : TV.one  TV.slz = true := rfl
theorem zbog  (l : List TV) : TV.one  (TV.sl l) = true := rfl
theorem zbgq  (k : Nat) (l : List TV) : TV.one  (TV.sla k l) = true := rfl
theorem zbgp  (k : Nat) (t : TypeId) : TV.one  (TV.slb k t) = true := rfl
theorem zbgn  (t : TypeId) (l : List TV) : TV.one  (TV.slo t l) = true := rfl
theorem zbgo  (id off n sz : Nat) : TV.one  (TV.slm id off n sz) = true := rfl
theorem zcka   : TV.one  TV.nilM = true := rfl
theorem zcj8   : TV.one  TV.nilF = true := rfl
theorem zcj7  (f : FuncId) (a b : List TV) : TV.one  (TV.func f a b) = true := rfl
theorem zcj9   : TV.one  TV.nilI = true := rfl
theorem zbgt  (cs : List TV) : TV.one  (TV.agg cs) = false := rfl
theorem zbgk  (cs : List TV) : TV.one  (TV.tup cs) = false := rfl
theorem zb75   : TV.known  TV.undef = false := rfl
theorem zb6i  (b : Bool) : TV.known  (TV.bool b) = true := rfl
theorem zcn3  (k : IntKind) (n : Int) : TV.known  (TV.int k n) = true := rfl
theorem zcnc  (s : ByteArray) : TV.known  (TV.str s) = true := rfl
theorem zb6n   : TV.known  TV.nilP = true := rfl
theorem zcn4  (id off : Nat) : TV.known  (TV.ptr id off) = true := rfl
theorem zb6o  (cs : List TV) (off : Nat) : TV.known  (TV.rptr cs off) = true := rfl
theorem zcn9   : TV.known  TV.slz = true := rfl
theorem zcjg  (l : List TV) : TV.known  (TV.sl l) = true := rfl
theorem zcn5  (k : Nat) (l : List TV) : TV.known  (TV.sla k l) = true := rfl
theorem zcn6  (k : Nat) (t : TypeId) : TV.known  (TV.slb k t) = true := rfl
theorem zcn8  (t : TypeId) (l : List TV) : TV.known  (TV.slo t l) = true := rfl
theorem zcn7  (id off n sz : Nat) : TV.known  (TV.slm id off n sz) = true := rfl
theorem zb6m   : TV.known  TV.nilM = true := rfl
theorem zb6k   : TV.known  TV.nilF = true := rfl
theorem zb6j  (f : FuncId) (a b : List TV) : TV.known  (TV.func f a b) = true := rfl
theorem zb6l   : TV.known  TV.nilI = true := rfl
theorem zcn2  (cs : List TV) : TV.known  (TV.agg cs) = true := rfl
theorem zcnd  (cs : List TV) : TV.known  (TV.tup cs) = true := rfl
theorem zb55   : TV.canS  TV.undef = TV.undef  := rfl
theorem zcmd  (b : Bool) : TV.canS  (TV.bool b) = TV.bool b := rfl
theorem zb4c  (k : IntKind) (n : Int) : TV.canS  (TV.int k n) = TV.int k n := rfl
theorem zcil  (s : ByteArray) : TV.canS  (TV.str s) = TV.str s := rfl
theorem zcmi   : TV.canS  TV.nilP = TV.nilP  := rfl
theorem zb4d  (id off : Nat) : TV.canS  (TV.ptr id off) = TV.ptr id off := rfl
theorem zcmj  (cs : List TV) (off : Nat) : TV.canS  (TV.rptr cs off) = TV.rptr cs off := rfl
theorem zcik   : TV.canS  TV.slz = .sl [] := rfl
theorem zbix  (l : List TV) : TV.canS  (TV.sl l) = TV.sl l := rfl
theorem zcig  (k : Nat) (l : List TV) : TV.canS  (TV.sla k l) = .sl l := rfl
theorem zcih  (k : Nat) (t : TypeId) : TV.canS  (TV.slb k t) = .sl [] := rfl
theorem zcij  (t : TypeId) (l : List TV) : TV.canS  (TV.slo t l) = TV.slo t l := rfl
theorem zcii  (id off n sz : Nat) : TV.canS  (TV.slm id off n sz) = TV.slm id off n sz := rfl
theorem zcmh   : TV.canS  TV.nilM = TV.nilM  := rfl
theorem zcmf   : TV.canS  TV.nilF = TV.nilF  := rfl
theorem zcme  (f : FuncId) (a b : List TV) : TV.canS  (TV.func f a b) = TV.func f a b := rfl
theorem zcmg   : TV.canS  TV.nilI = TV.nilI  := rfl
theorem zb4b  (cs : List TV) : TV.canS  (TV.agg cs) = TV.agg cs := rfl
theorem zcim  (cs : List TV) : TV.canS  (TV.tup cs) = TV.tup cs := rfl
theorem zb54   : TV.canA  TV.undef = TV.undef  := rfl
theorem zcl6  (b : Bool) : TV.canA  (TV.bool b) = TV.bool b := rfl
theorem zb32  (k : IntKind) (n : Int) : TV.canA  (TV.int k n) = TV.int k n := rfl
theorem zb39  (s : ByteArray) : TV.canA  (TV.str s) = TV.str s := rfl
theorem zcmb   : TV.canA  TV.nilP = TV.nilP  := rfl
theorem zb33  (id off : Nat) : TV.canA  (TV.ptr id off) = TV.ptr id off := rfl
theorem zcmc  (cs : List TV) (off : Nat) : TV.canA  (TV.rptr cs off) = TV.rptr cs off := rfl
theorem zb38   : TV.canA  TV.slz = .sl [] := rfl
theorem zbiy  (l : List TV) : TV.canA  (TV.sl l) = TV.sl l := rfl
theorem zb34  (k : Nat) (l : List TV) : TV.canA  (TV.sla k l) = .sl l := rfl
theorem zb35  (k : Nat) (t : TypeId) : TV.canA  (TV.slb k t) = .sl [] := rfl
theorem zb37  (t : TypeId) (l : List TV) : TV.canA  (TV.slo t l) = TV.slo t l := rfl
theorem zb36  (id off n sz : Nat) : TV.canA  (TV.slm id off n sz) = TV.slm id off n sz := rfl
theorem zcma   : TV.canA  TV.nilM = TV.nilM  := rfl
theorem zcl8   : TV.canA  TV.nilF = TV.nilF  := rfl
theorem zcl7  (f : FuncId) (a b : List TV) : TV.canA  (TV.func f a b) = TV.func f a b := rfl
theorem zcl9   : TV.canA  TV.nilI = TV.nilI  := rfl
theorem zb31  (cs : List TV) : TV.canA  (TV.agg cs) = .agg (cs.map TV.canS) := rfl
theorem zb4a  (cs : List TV) : TV.canA  (TV.tup cs) = TV.tup cs := rfl
theorem zb56   : TV.canT  TV.undef = TV.undef  := rfl
theorem zcmk  (b : Bool) : TV.canT  (TV.bool b) = TV.bool b := rfl
theorem zcio  (k : IntKind) (n : Int) : TV.canT  (TV.int k n) = TV.int k n := rfl
theorem zch0  (s : ByteArray) : TV.canT  (TV.str s) = TV.str s := rfl
theorem zcmp   : TV.canT  TV.nilP = TV.nilP  := rfl
theorem zcip  (id off : Nat) : TV.canT  (TV.ptr id off) = TV.ptr id off := rfl
theorem zcmq  (cs : List TV) (off : Nat) : TV.canT  (TV.rptr cs off) = TV.rptr cs off := rfl
theorem zchz   : TV.canT  TV.slz = .sl [] := rfl
theorem zbiw  (l : List TV) : TV.canT  (TV.sl l) = TV.sl l := rfl
theorem zchv  (k : Nat) (l : List TV) : TV.canT  (TV.sla k l) = .sl l := rfl
theorem zchw  (k : Nat) (t : TypeId) : TV.canT  (TV.slb k t) = .sl [] := rfl
theorem zchy  (t : TypeId) (l : List TV) : TV.canT  (TV.slo t l) = TV.slo t l := rfl
theorem zchx  (id off n sz : Nat) : TV.canT  (TV.slm id off n sz) = TV.slm id off n sz := rfl
theorem zcmo   : TV.canT  TV.nilM = TV.nilM  := rfl
theorem zcmm   : TV.canT  TV.nilF = TV.nilF  := rfl
theorem zcml  (f : FuncId) (a b : List TV) : TV.canT  (TV.func f a b) = TV.func f a b := rfl
theorem zcmn   : TV.canT  TV.nilI = TV.nilI  := rfl
theorem zcin  (cs : List TV) : TV.canT  (TV.agg cs) = .agg (cs.map TV.canS) := rfl
theorem zch1  (cs : List TV) : TV.canT  (TV.tup cs) = .tup (cs.map TV.canA) := rfl
theorem zb6u   : TV.part  TV.undef = TV.undef  := rfl
theorem zcnl  (b : Bool) : TV.part  (TV.bool b) = TV.bool b := rfl
theorem zcjl  (k : IntKind) (n : Int) : TV.part  (TV.int k n) = TV.int k n := rfl
theorem zcjs  (s : ByteArray) : TV.part  (TV.str s) = TV.str s := rfl
theorem zcnr   : TV.part  TV.nilP = TV.nilP  := rfl
theorem zcjm  (id off : Nat) : TV.part  (TV.ptr id off) = TV.ptr id off := rfl
theorem zcns  (cs : List TV) (off : Nat) : TV.part  (TV.rptr cs off) = TV.rptr cs off := rfl
theorem zcjr   : TV.part  TV.slz = TV.slz  := rfl
theorem zbgg  (l : List TV) : TV.part  (TV.sl l) = TV.sl l := rfl
theorem zcjn  (k : Nat) (l : List TV) : TV.part  (TV.sla k l) = .sl l := rfl
theorem zcjo  (k : Nat) (t : TypeId) : TV.part  (TV.slb k t) = .sl [] := rfl
theorem zcjq  (t : TypeId) (l : List TV) : TV.part  (TV.slo t l) = TV.slo t l := rfl
theorem zcjp  (id off n sz : Nat) : TV.part  (TV.slm id off n sz) = TV.slm id off n sz := rfl
theorem zcnq   : TV.part  TV.nilM = TV.nilM  := rfl
theorem zcno   : TV.part  TV.nilF = TV.nilF  := rfl
theorem zcnn  (f : FuncId) (a b : List TV) : TV.part  (TV.func f a b) = TV.func f a b := rfl
theorem zcnp   : TV.part  TV.nilI = TV.nilI  := rfl
theorem zcjk  (cs : List TV) : TV.part  (TV.agg cs) = TV.agg cs := rfl
theorem zcjt  (cs : List TV) : TV.part  (TV.tup cs) = TV.tup cs := rfl
theorem zb4m   : TV.put  TV.undef = TV.undef  := rfl
theorem zck0  (b : Bool) : TV.put  (TV.bool b) = TV.bool b := rfl
theorem zbf9  (k : IntKind) (n : Int) : TV.put  (TV.int k n) = TV.int k n := rfl
theorem zbf2  (s : ByteArray) : TV.put  (TV.str s) = TV.str s := rfl
theorem zck5   : TV.put  TV.nilP = TV.nilP  := rfl
theorem zbf8  (id off : Nat) : TV.put  (TV.ptr id off) = TV.ptr id off := rfl
theorem zck6  (cs : List TV) (off : Nat) : TV.put  (TV.rptr cs off) = TV.rptr cs off := rfl
theorem zbf3   : TV.put  TV.slz = TV.slz  := rfl
theorem zbod  (l : List TV) : TV.put  (TV.sl l) = TV.sl l := rfl
theorem zbf7  (k : Nat) (l : List TV) : TV.put  (TV.sla k l) = .sl l := rfl
theorem zbf6  (k : Nat) (t : TypeId) : TV.put  (TV.slb k t) = .sl [] := rfl
theorem zbf4  (t : TypeId) (l : List TV) : TV.put  (TV.slo t l) = TV.slo t l := rfl
theorem zbf5  (id off n sz : Nat) : TV.put  (TV.slm id off n sz) = TV.slm id off n sz := rfl
theorem zck4   : TV.put  TV.nilM = TV.nilM  := rfl
theorem zck2   : TV.put  TV.nilF = TV.nilF  := rfl
theorem zck1  (f : FuncId) (a b : List TV) : TV.put  (TV.func f a b) = TV.func f a b := rfl
theorem zck3   : TV.put  TV.nilI = TV.nilI  := rfl
theorem zbga  (cs : List TV) : TV.put  (TV.agg cs) = TV.agg cs := rfl
theorem zbf1  (cs : List TV) : TV.put  (TV.tup cs) = TV.tup cs := rfl
theorem zck8   : TV.rd  TV.undef = TV.undef  := rfl
theorem zbfx  (b : Bool) : TV.rd  (TV.bool b) = TV.bool b := rfl
theorem zbob  (k : IntKind) (n : Int) : TV.rd  (TV.int k n) = TV.int k n := rfl
theorem zbn4  (s : ByteArray) : TV.rd  (TV.str s) = TV.str s := rfl
theorem zbfr   : TV.rd  TV.nilP = TV.nilP  := rfl
theorem zboa  (id off : Nat) : TV.rd  (TV.ptr id off) = TV.ptr id off := rfl
theorem zbfq  (cs : List TV) (off : Nat) : TV.rd  (TV.rptr cs off) = TV.rptr cs off := rfl
theorem zbn5   : TV.rd  TV.slz = TV.slz  := rfl
theorem zbva  (l : List TV) : TV.rd  (TV.sl l) = TV.sl l := rfl
theorem zbn9  (k : Nat) (l : List TV) : TV.rd  (TV.sla k l) = TV.sla k l := rfl
theorem zbn8  (k : Nat) (t : TypeId) : TV.rd  (TV.slb k t) = TV.slb k t := rfl
theorem zbn6  (t : TypeId) (l : List TV) : TV.rd  (TV.slo t l) = .sl l := rfl
theorem zbn7  (id off n sz : Nat) : TV.rd  (TV.slm id off n sz) = TV.slm id off n sz := rfl
theorem zbfs   : TV.rd  TV.nilM = TV.nilM  := rfl
theorem zbfu   : TV.rd  TV.nilF = TV.nilF  := rfl
theorem zbfw  (f : FuncId) (a b : List TV) : TV.rd  (TV.func f a b) = TV.func f a b := rfl
theorem zbft   : TV.rd  TV.nilI = TV.nilI  := rfl
theorem zboc  (cs : List TV) : TV.rd  (TV.agg cs) = TV.agg cs := rfl
theorem zbn3  (cs : List TV) : TV.rd  (TV.tup cs) = TV.tup cs := rfl
theorem zciu   : TV.list  TV.slz = some [] := rfl
theorem zbhr  (l : List TV) : TV.list  (TV.sl l) = some l := rfl
theorem zcit  (k : Nat) (l : List TV) : TV.list  (TV.sla k l) = some l := rfl
theorem zb82   : TV.pureS  TV.undef = false := rfl
theorem zb6v  (b : Bool) : TV.pureS  (TV.bool b) = true := rfl
theorem zcnx  (k : IntKind) (n : Int) : TV.pureS  (TV.int k n) = true := rfl
theorem zb46  (s : ByteArray) : TV.pureS  (TV.str s) = true := rfl
theorem zb6z   : TV.pureS  TV.nilP = true := rfl
theorem zcny  (id off : Nat) : TV.pureS  (TV.ptr id off) = false := rfl
theorem zb60  (cs : List TV) (off : Nat) : TV.pureS  (TV.rptr cs off) = false := rfl
theorem zb45   : TV.pureS  TV.slz = false := rfl
theorem zcju  (l : List TV) : TV.pureS  (TV.sl l) = true := rfl
theorem zcnz  (k : Nat) (l : List TV) : TV.pureS  (TV.sla k l) = false := rfl
theorem zcn0  (k : Nat) (t : TypeId) : TV.pureS  (TV.slb k t) = false := rfl
theorem zb44  (t : TypeId) (l : List TV) : TV.pureS  (TV.slo t l) = false := rfl
theorem zcn1  (id off n sz : Nat) : TV.pureS  (TV.slm id off n sz) = false := rfl
theorem zb6y   : TV.pureS  TV.nilM = true := rfl
theorem zb6w   : TV.pureS  TV.nilF = true := rfl
theorem zb6x   : TV.pureS  TV.nilI = true := rfl
theorem zcnw  (cs : List TV) : TV.pureS  (TV.agg cs) = false := rfl
theorem zb47  (cs : List TV) : TV.pureS  (TV.tup cs) = false := rfl
theorem zb81 (f : FuncId) : TV.pureS (.func f [] []) = true := rfl
theorem zb61   : TV.pure  TV.undef = false := rfl
theorem zb48  (b : Bool) : TV.pure  (TV.bool b) = true := rfl
theorem zcjw  (k : IntKind) (n : Int) : TV.pure  (TV.int k n) = true := rfl
theorem zcj3  (s : ByteArray) : TV.pure  (TV.str s) = true := rfl
theorem zb5c   : TV.pure  TV.nilP = true := rfl
theorem zcjx  (id off : Nat) : TV.pure  (TV.ptr id off) = false := rfl
theorem zb5d  (cs : List TV) (off : Nat) : TV.pure  (TV.rptr cs off) = false := rfl
theorem zcj2   : TV.pure  TV.slz = false := rfl
theorem zbgb  (l : List TV) : TV.pure  (TV.sl l) = true := rfl
theorem zcjy  (k : Nat) (l : List TV) : TV.pure  (TV.sla k l) = false := rfl
theorem zcjz  (k : Nat) (t : TypeId) : TV.pure  (TV.slb k t) = false := rfl
theorem zcj1  (t : TypeId) (l : List TV) : TV.pure  (TV.slo t l) = false := rfl
theorem zcj0  (id off n sz : Nat) : TV.pure  (TV.slm id off n sz) = false := rfl
theorem zb5b   : TV.pure  TV.nilM = true := rfl
theorem zb49   : TV.pure  TV.nilF = true := rfl
theorem zb5a   : TV.pure  TV.nilI = true := rfl
theorem zcjv  (cs : List TV) : TV.pure  (TV.agg cs) = cs.all TV.pureS := rfl
theorem zckz  (cs : List TV) : TV.pure  (TV.tup cs) = false := rfl
theorem zb86 (n : Nat)  : TV.under n TV.undef = true := by simp [TV.under]
theorem zciz (n m : Nat)  : TV.lt n m TV.undef = true := by simp [TV.lt]
theorem zb7e (n : Nat) (b : Bool) : TV.under n (TV.bool b) = true := by simp [TV.under]
theorem zbhi (n m : Nat) (b : Bool) : TV.lt n m (TV.bool b) = true := by simp [TV.lt]
theorem zb5q (n : Nat) (k : IntKind) (q : Int) : TV.under n (TV.int k q) = true := by simp [TV.under]
theorem zbou (n m : Nat) (k : IntKind) (q : Int) : TV.lt n m (TV.int k q) = true := by simp [TV.lt]
theorem zb5i (n : Nat) (s : ByteArray) : TV.under n (TV.str s) = true := by simp [TV.under]
theorem zbon (n m : Nat) (s : ByteArray) : TV.lt n m (TV.str s) = true := by simp [TV.lt]
theorem zb7j (n : Nat)  : TV.under n TV.nilP = true := by simp [TV.under]
theorem zbhb (n m : Nat)  : TV.lt n m TV.nilP = true := by simp [TV.lt]
theorem zb5r (n : Nat) (id off : Nat) : TV.under n (TV.ptr id off) = decide (id < n) := by simp [TV.under]
theorem zbot (n m : Nat) (id off : Nat) : TV.lt n m (TV.ptr id off) = decide (id < n) := by simp [TV.lt]
theorem zb7k (n : Nat) (cs : List TV) (off : Nat) : TV.under n (TV.rptr cs off) = true := by simp [TV.under]
theorem zbha (n m : Nat) (cs : List TV) (off : Nat) : TV.lt n m (TV.rptr cs off) = true := by simp [TV.lt]
theorem zb5h (n : Nat)  : TV.under n TV.slz = true := by simp [TV.under]
theorem zboo (n m : Nat)  : TV.lt n m TV.slz = true := by simp [TV.lt]
theorem zcli (n : Nat) (l : List TV) : TV.under n (TV.sl l) = true := by simp [TV.under]
theorem zbvl (n m : Nat) (l : List TV) : TV.lt n m (TV.sl l) = true := by simp [TV.lt]
theorem zb5s (n : Nat) (k : Nat) (l : List TV) : TV.under n (TV.sla k l) = false := by simp [TV.under]
theorem zbos (n m : Nat) (k : Nat) (l : List TV) : TV.lt n m (TV.sla k l) = decide (k < m) := by simp [TV.lt]
theorem zb5e (n : Nat) (k : Nat) (t : TypeId) : TV.under n (TV.slb k t) = false := by simp [TV.under]
theorem zbor (n m : Nat) (k : Nat) (t : TypeId) : TV.lt n m (TV.slb k t) = decide (k < m) := by simp [TV.lt]
theorem zb5g (n : Nat) (t : TypeId) (l : List TV) : TV.under n (TV.slo t l) = true := by simp [TV.under]
theorem zbop (n m : Nat) (t : TypeId) (l : List TV) : TV.lt n m (TV.slo t l) = true := by simp [TV.lt]
theorem zb5f (n : Nat) (id off q sz : Nat) : TV.under n (TV.slm id off q sz) = decide (id < n) := by simp [TV.under]
theorem zboq (n m : Nat) (id off q sz : Nat) : TV.lt n m (TV.slm id off q sz) = decide (id < n) := by simp [TV.lt]
theorem zb7i (n : Nat)  : TV.under n TV.nilM = true := by simp [TV.under]
theorem zbhc (n m : Nat)  : TV.lt n m TV.nilM = true := by simp [TV.lt]
theorem zb7g (n : Nat)  : TV.under n TV.nilF = true := by simp [TV.under]
theorem zbhe (n m : Nat)  : TV.lt n m TV.nilF = true := by simp [TV.lt]
theorem zb7f (n : Nat) (f : FuncId) (a b : List TV) : TV.under n (TV.func f a b) = (fp n a && fp n b) := by simp [TV.under]
theorem zbhh (n m : Nat) (f : FuncId) (a b : List TV) : TV.lt n m (TV.func f a b) = (ltL n m a && ltL n m b) := by simp [TV.lt]
theorem zb7h (n : Nat)  : TV.under n TV.nilI = true := by simp [TV.under]
theorem zbhd (n m : Nat)  : TV.lt n m TV.nilI = true := by simp [TV.lt]
theorem zb5p (n : Nat) (cs : List TV) : TV.under n (TV.agg cs) = fp n cs := by simp [TV.under]
theorem zbov (n m : Nat) (cs : List TV) : TV.lt n m (TV.agg cs) = ltL n m cs := by simp [TV.lt]
theorem zb5j (n : Nat) (cs : List TV) : TV.under n (TV.tup cs) = fp n cs := by simp [TV.under]
theorem zbom (n m : Nat) (cs : List TV) : TV.lt n m (TV.tup cs) = ltL n m cs := by simp [TV.lt]
theorem zb7d (n : Nat) : fp n [] = true := by simp [fp]
theorem zb85 (n : Nat) (v : TV) (l : List TV) : fp n (v :: l) = (v.under n && fp n l) := by simp [fp]
theorem zbhj (n m : Nat) : ltL n m [] = true := by simp [ltL]
theorem zciy (n m : Nat) (v : TV) (l : List TV) : ltL n m (v :: l) = (v.lt n m && ltL n m l) := by simp [ltL]
theorem nv {Γ : FuncId → Option TG} {lv : List Nat} {a : TC} {Q : TEx → aq} {fr : TF} {tk : TK} {τ : TH} (h : ∀ LQ : TEx → aq,(∀ fr' tk' τ',LQ .normal fr' tk' τ' = zbo8 lv tk τ fr' tk' τ' (tW Γ (.loop lv a) Q)) → (LQ .ret = Q .ret) → (∀ id,LQ (.exit id) = Q (.exit id)) → tW Γ a LQ (sel lv fr) tk τ) : tW Γ (.loop lv a) Q fr tk τ := by
 rw [zbqu]
 exact h _ (fun fr' tk' τ' => zb2c Γ fr' tk tk' τ τ' a lv Q) rfl fun _ => rfl
def zbck : List (Nat × TG) → FuncId → Option TG
 | [],_ => none
 | (k,g) :: r,f => if f = k then some g else zbck r f
def zbtg (P : Program) (l : List (Nat × TG)) : Prop := ∀ p ∈ l,match p.2 with
 | .code fn => ∃ H,xa P H p.1 = some (fn.n,fn.c.erase,fn.rs)
 | .prim g => ∀ args τ r τ',g args τ = some (r,τ') → zbqa P p.1 args τ r τ'
theorem zbrq {P : Program} : zbtg P [] := fun p hp => by simp at hp
theorem bd {P : Program} {H : List (Nat × DH)} {f n : Nat} {c : TC} {rs : List R} {fz : Bool} (h : xa P H f = some (n,c.erase,rs)) {l : List (Nat × TG)} (k : zbtg P l) : zbtg P ((f,.code ⟨n,c,rs,fz⟩) :: l) := fun p hp => by
 rcases List.mem_cons.1 hp with rfl | hp
 · exact ⟨H,h⟩
 · exact k p hp
theorem zby2 {P : Program} {f : Nat} {g : List TV → TH → Option (TV × TH)} (h : ∀ args τ r τ',g args τ = some (r,τ') → zbqa P f args τ r τ') {l : List (Nat × TG)} (k : zbtg P l) : zbtg P ((f,.prim g) :: l) := fun p hp => by
 rcases List.mem_cons.1 hp with rfl | hp
 · exact h
 · exact k p hp
theorem zcm3 : ∀ {l : List (Nat × TG)} {f : Nat} {g : TG},zbck l f = some g → (f,g) ∈ l
 | [],_,_,h => by cases h
 | (k,g) :: r,f,g',h => by
  simp only [zbck] at h
  split at h
  · rename_i e; injection h with h; subst e h; simp
  · exact List.mem_cons_of_mem _ (zcm3 h)
theorem zblw {P : Program} {l : List (Nat × TG)} (h : zbtg P l) : GOK P (zbck l) := fun f => by
 cases hq : zbck l f with
 | none => trivial
 | some g =>
  have := h _ (zcm3 hq)
  cases g with
  | code fn => exact this
  | prim g => exact this
section
variable (τ : TH) (b c : Ob) (id k n : Nat)
def zbr9 (o : Option Ob) (off : Nat) : Option TV := match o with | some b => (b.cs[off]?).map TV.rd | none => none
def zb2y (o : Option Ob) (off n : Nat) : Option (List TV) := match o with | some b => if off + n ≤ b.cs.length then some (((b.cs.drop off).take n).map TV.rd) else none | none => none
theorem zclr (off : Nat) : zbks τ id off = zbr9 (τ.at id) off := by unfold zbks zbr9; cases τ.at id <;> rfl
theorem zbdr (off : Nat) : za8g τ id off n = zb2y (τ.at id) off n := by unfold za8g zb2y; cases τ.at id <;> rfl
theorem zb57 (t : TypeId) (cs : List TV) (off : Nat) : zbr9 (some ⟨t,cs⟩) off = (cs[off]?).map TV.rd := rfl
theorem zb4r (t : TypeId) (cs : List TV) (off : Nat) : zb2y (some ⟨t,cs⟩) off n = if off + n ≤ cs.length then some (((cs.drop off).take n).map TV.rd) else none := rfl
theorem zcmx : (τ.push b).at τ.next = some b := zbt6
theorem zb53 (h : id = τ.next) : (τ.push b).at id = some b := by subst h; exact zbt6
theorem zcmy (h : id < τ.next) : (τ.push b).at id = τ.at id := zf h
theorem am : (τ.push b).next = τ.next + 1 := ff
theorem ag : (τ.put id b).next = τ.next := ax
theorem zbg5 : (τ.locked n).next = τ.next := rfl
theorem zaqi : (τ.locked n).at id = τ.at id := rfl
theorem az : (τ.push b).lock = τ.lock := rfl
theorem ah : (τ.put id b).lock = τ.lock := rfl
theorem zbho : (τ.cut n).lock = τ.lock := rfl
theorem zbhn : (τ.locked n).lock = n := rfl
theorem zbwa (h : id < τ.next) : (τ.put id b).at id = some b := xb h
theorem zb3w (h : (k = id) = False) : (τ.put id b).at k = τ.at k := zg (by simpa using h)
theorem zbqg : (τ.put id b).put id c = τ.put id c := by simp [TH.put]
theorem zcnu (h : id = τ.next) : (τ.push b).put id c = τ.push c := by subst h; simp [TH.put,TH.push,TH.next,List.set_append_right]
theorem zcnv (h : id < τ.next) : (τ.push b).put id c = (τ.put id c).push b := by simp only [TH.put,TH.push,TH.next] at *; rw [List.set_append_left _ _ h]
theorem zch4 (h : n ≤ τ.next) : (τ.push b).cut n = τ.cut n := by simp only [TH.cut,TH.push,TH.next] at *; rw [List.take_append_of_le_length h]
theorem jf (h : τ.next ≤ n) : τ.cut n = τ := zbwv h
theorem zb65 : (τ.locked k).cut n = (τ.cut n).locked k := rfl
theorem zb83 : (τ.locked k).push b = (τ.push b).locked k := rfl
theorem zb62 : (τ.locked k).put id b = (τ.put id b).locked k := rfl
theorem zcar : (τ.locked k).locked n = τ.locked n := rfl
theorem zb76 : τ.locked τ.lock = τ := rfl
end
section
variable (k : IntKind) (x y : Int) (s u : ByteArray)
theorem zbno : a6 .add (.int k x) (.int k y) = some (.int k (k.wrap (x + y))) := by simp [a6,a8,zaxd,ofS]
theorem zbna : a6 .sub (.int k x) (.int k y) = some (.int k (k.wrap (x - y))) := by simp [a6,a8,zaxd,ofS]
theorem zbng : a6 .mul (.int k x) (.int k y) = some (.int k (k.wrap (x * y))) := by simp [a6,a8,zaxd,ofS]
theorem zbnn : a6 .and (.int k x) (.int k y) = some (.int k (k.wrap (BitVec.ofInt k.bits x &&& BitVec.ofInt k.bits y).toNat)) := by simp [a6,a8,zaxd,ofS]
theorem zbus : a6 .or (.int k x) (.int k y) = some (.int k (k.wrap (BitVec.ofInt k.bits x ||| BitVec.ofInt k.bits y).toNat)) := by simp [a6,a8,zaxd,ofS]
theorem zbm9 : a6 .xor (.int k x) (.int k y) = some (.int k (k.wrap (BitVec.ofInt k.bits x ^^^ BitVec.ofInt k.bits y).toNat)) := by simp [a6,a8,zaxd,ofS]
theorem zbnh : a6 .lss (.int k x) (.int k y) = some (.bool (decide (x < y))) := by simp [a6,a8,zaxd,ofS]
theorem zbni : a6 .leq (.int k x) (.int k y) = some (.bool (decide (x ≤ y))) := by simp [a6,a8,zaxd,ofS]
theorem zbnj : a6 .gtr (.int k x) (.int k y) = some (.bool (decide (y < x))) := by simp [a6,a8,zaxd,ofS]
theorem zbnk : a6 .geq (.int k x) (.int k y) = some (.bool (decide (y ≤ x))) := by simp [a6,a8,zaxd,ofS]
theorem zbnl : a6 .eql (.int k x) (.int k y) = some (.bool (decide (x = y))) := by simp [a6,a8,zaxd,ofS]; rfl
theorem zbnf : a6 .neq (.int k x) (.int k y) = some (.bool (decide (¬ x = y))) := by simp [a6,a8,zaxd,ofS]; rfl
theorem zbne : a6 .quo (.int k x) (.int k y) = if y = 0 then none else some (.int k (k.wrap (x.tdiv y))) := by simp [a6,a8,zaxd,ofS]; split <;> simp [ofS]
theorem zbnd : a6 .rem (.int k x) (.int k y) = if y = 0 then none else some (.int k (x.tmod y)) := by simp [a6,a8,zaxd,ofS]; split <;> simp [ofS]
theorem zbnc (j : IntKind) : a6 .shl (.int k x) (.int j y) = if y < 0 then none else some (.int k (k.wrap (x * 2 ^ (Nat.min y.toNat k.bits)))) := by simp [a6,a8,zbpv,ofS]; split <;> simp [ofS]
theorem zbnb (j : IntKind) : a6 .shr (.int k x) (.int j y) = if y < 0 then none else some (.int k (x.fdiv (2 ^ (Nat.min y.toNat k.bits)))) := by simp [a6,a8,zbpv,ofS]; split <;> simp [ofS]
theorem zbnm : a6 .add (.str s) (.str u) = if 9223372036854775807 < ((s.size + u.size : Nat) : Int) then none else some (.str (s ++ u)) := by
 have e : IntKind.i64.max = 9223372036854775807 := by decide
 simp only [a6,zbe2,e]
 split
 · rfl
 · rfl
theorem zb8u {s u : ByteArray} : s.toList = u.toList ↔ s = u := by
 constructor
 · intro h
   rw [ByteArray.toList_eq,ByteArray.toList_eq] at h
   cases s; cases u; simp_all
 · rintro rfl; rfl
theorem zbeb : a6 .eql (.str s) (.str u) = some (.bool (decide (s = u))) := by simp only [a6,zbe2,Option.map_some,ofS]; congr 2; by_cases h : s = u <;> simp [h,zb8u]
theorem zbea : a6 .neq (.str s) (.str u) = some (.bool (decide (¬ s = u))) := by simp only [a6,zbe2,Option.map_some,ofS]; congr 2; by_cases h : s = u <;> simp [h,zb8u]
theorem zbm0 (b : Bool) : tun .not (.bool b) = some (.bool !b) := rfl
def zb21 (k : IntKind) (x : Int) : Int := k.wrap (BitVec.ofInt k.bits (if k.signed then -1 else k.max) ^^^ BitVec.ofInt k.bits x).toNat
theorem zbmz : tun .xor (.int k x) = some (.int k (zb21 k x)) := rfl
theorem zbm1 : tun .neg (.int k x) = some (.int k (k.wrap (0 - x))) := rfl
end
theorem zb74 (c : Prop) [Decidable c] (v : TV) (d : Option Nat) (K : aq) (fr : TF) (tk : TK) (τ : TH) : pK (if c then none else some v) d K fr tk τ = (¬ c ∧ K (ew fr d v) tk τ) := by unfold pK; by_cases h : c <;> simp [h]
theorem zbhf {g n k : Nat} (h : g < n) : (g < n + k) = True := by simp; omega
theorem zbhw {g n k : Nat} (h : g ≤ n) : (g ≤ n + k) = True := by simp; omega
theorem zbg9 (n k : Nat) : (n < n + k) = (0 < k) := by simp
theorem zbhg (n j k : Nat) : (n + j < n + k) = (j < k) := by simp
theorem zbhv (n k : Nat) : (n ≤ n + k) = True := by simp
theorem zbhx (n j k : Nat) : (n + j ≤ n + k) = (j ≤ k) := by simp
theorem zbiq (n j k : Nat) : (n + j = n + k) = (j = k) := by simp
theorem zb8j (n k : Nat) : (n = n + k) = (k = 0) := by simp
theorem zb89 (n k : Nat) : (n + k = n) = (k = 0) := by simp
theorem zb9d (n : Nat) : (n < n) = False := by simp
theorem zbjm (n j k : Nat) : n + j + k = n + (j + k) := Nat.add_assoc n j k
theorem zckr (i o j p : Nat) : TV.same (.ptr i o) (.ptr j p) = (i == j && o == p) := rfl
theorem zckq (k j : IntKind) (n m : Int) : TV.same (.int k n) (.int j m) = (decide (k = j) && decide (n = m)) := rfl
theorem zb4u (a b : Bool) : TV.same (.bool a) (.bool b) = (a == b) := rfl
theorem zcks (a b : ByteArray) : TV.same (.str a) (.str b) = decide (a = b) := rfl
theorem zb4v (f g : FuncId) (a b c d : List TV) : TV.same (.func f a b) (.func g c d) = (decide (f = g) && (zbkd a c && zbkd b d)) := rfl
theorem zb4t : zbkd [] [] = true := rfl
theorem zb7q (v w : TV) (r s : List TV) : zbkd (v :: r) (w :: s) = (v.same w && zbkd r s) := rfl
theorem zb4q (fr : TF) (τ : TH) (d : Nat) (i : I) (g : Option (Nat × Bool)) : zbw0 ⟨some d,i,g⟩ fr τ = zbyn (zbto i fr τ) (lkp fr d) := rfl
theorem zb4n (fr : TF) (τ : TH) (x : Operand) : zbto (.load1 x) fr τ = rdO (tO fr x) τ := rfl
theorem zbfy (τ : TH) (id off : Nat) : rdO (.ptr id off) τ = rdB (τ.at id) off := rfl
theorem zck7 (t : TypeId) (cs : List TV) (off : Nat) : rdB (some ⟨t,cs⟩) off = (cs[off]?).map TV.rd := rfl
theorem zb4s (v w : TV) : zbyn (some v) w = v.same w := rfl
theorem zch6 : decide True = true := rfl
theorem zch5 : decide False = false := rfl
theorem TT0 : type_of% (ai (ai (ai (ai @zbpc @zbpd) (ai @zbwh @zbwi)) (ai (ai @cp @zclm) (ai @zb4z @zbed))) (ai (ai (ai @zclp @zbee) (ai @zcln @zclo)) (ai (ai @zbjq @zbwg) (ai @zbpe @zbjs)))) := (ai (ai (ai (ai @zbpc @zbpd) (ai @zbwh @zbwi)) (ai (ai @cp @zclm) (ai @zb4z @zbed))) (ai (ai (ai @zclp @zbee) (ai @zcln @zclo)) (ai (ai @zbjq @zbwg) (ai @zbpe @zbjs))))
theorem TT1 : type_of% (ai (ai (ai (ai @zbjr @zbi2) (ai @zbdw @zbdv)) (ai (ai @zbdx @zb3z) (ai @zb3y @zcmz))) (ai (ai (ai @zb30 @zb2c) (ai @zbhk @zbhl)) (ai (ai @zbi7 @zbn0) (ai @zbn1 @zbfc)))) := (ai (ai (ai (ai @zbjr @zbi2) (ai @zbdw @zbdv)) (ai (ai @zbdx @zb3z) (ai @zb3y @zcmz))) (ai (ai (ai @zb30 @zb2c) (ai @zbhk @zbhl)) (ai (ai @zbi7 @zbn0) (ai @zbn1 @zbfc))))
theorem TT2 : type_of% (ai (ai (ai (ai @zbfd @zcid) (ai @zcko @zbm3)) (ai (ai @zbm4 @zbm2) (ai @zb96 @zccb))) (ai (ai (ai @zb64 @zb8w) (ai @zb7a @zb7b)) (ai (ai @zbf0 @zbfz) (ai @zbnr @zbej)))) := (ai (ai (ai (ai @zbfd @zcid) (ai @zcko @zbm3)) (ai (ai @zbm4 @zbm2) (ai @zb96 @zccb))) (ai (ai (ai @zb64 @zb8w) (ai @zb7a @zb7b)) (ai (ai @zbf0 @zbfz) (ai @zbnr @zbej))))
theorem TT3 : type_of% (ai (ai (ai (ai @zbei @zbel) (ai @zcky @zclj)) (ai (ai @zbvw @zbvz) (ai @zbvx @zbvy))) (ai (ai (ai @zbo1 @zbps) (ai @zbj9 @zclb)) (ai (ai @zb42 @zb5k) (ai @zbd4 @zclg)))) := (ai (ai (ai (ai @zbei @zbel) (ai @zcky @zclj)) (ai (ai @zbvw @zbvz) (ai @zbvx @zbvy))) (ai (ai (ai @zbo1 @zbps) (ai @zbj9 @zclb)) (ai (ai @zb42 @zb5k) (ai @zbd4 @zclg))))
theorem TT4 : type_of% (ai (ai (ai (ai @zb43 @zbd3) (ai @zclc @zbdz)) (ai (ai @zclf @zbm7) (ai @zbd5 @zbd2))) (ai (ai (ai @zcld @zbd0) (ai @zcle @zbd1)) (ai (ai @zbj8 @zbj7) (ai @zb4f @zbis)))) := (ai (ai (ai (ai @zb43 @zbd3) (ai @zclc @zbdz)) (ai (ai @zclf @zbm7) (ai @zbd5 @zbd2))) (ai (ai (ai @zcld @zbd0) (ai @zcle @zbd1)) (ai (ai @zbj8 @zbj7) (ai @zb4f @zbis))))
theorem TT5 : type_of% (ai (ai (ai (ai @zbgi @zbof) (ai @zckd @zb2f)) (ai (ai @zbwl @zbpm) (ai @zbpn @zci5))) (ai (ai (ai @zbpl @zbge) (ai @zbj4 @zbhz)) (ai (ai @zcjh @zbj2) (ai @zbhy @zcji)))) := (ai (ai (ai (ai @zbgi @zbof) (ai @zckd @zb2f)) (ai (ai @zbwl @zbpm) (ai @zbpn @zci5))) (ai (ai (ai @zbpl @zbge) (ai @zbj4 @zbhz)) (ai (ai @zcjh @zbj2) (ai @zbhy @zcji))))
theorem TT6 : type_of% (ai (ai (ai (ai @zb4j @zci4) (ai @zcnj @zcni)) (ai (ai @zbwr @zbwp) (ai @zbo5 @zbj5))) (ai (ai (ai @zb8s @zb7t) (ai @zb8t @zb7v)) (ai (ai @zb5l @zb7u) (ai @zb8r @zb8q)))) := (ai (ai (ai (ai @zb4j @zci4) (ai @zcnj @zcni)) (ai (ai @zbwr @zbwp) (ai @zbo5 @zbj5))) (ai (ai (ai @zb8s @zb7t) (ai @zb8t @zb7v)) (ai (ai @zb5l @zb7u) (ai @zb8r @zb8q))))
theorem TT7 : type_of% (ai (ai (ai (ai @zb8p @zcpa) (ai @zbpr @zbiv)) (ai (ai @zbj6 @zch3) (ai @zb7w @zbht))) (ai (ai (ai @zcis @zckf) (ai @zb4o @zbfl)) (ai (ai @zb4p @zckg) (ai @zbfm @zbff)))) := (ai (ai (ai (ai @zb8p @zcpa) (ai @zbpr @zbiv)) (ai (ai @zbj6 @zch3) (ai @zb7w @zbht))) (ai (ai (ai @zcis @zckf) (ai @zb4o @zbfl)) (ai (ai @zb4p @zckg) (ai @zbfm @zbff))))
theorem TT8 : type_of% (ai (ai (ai (ai @zckl @zckm) (ai @zbfg @zbn2)) (ai (ai @zbfk @zbfj) (ai @zbfh @zbfi))) (ai (ai (ai @zckk @zcki) (ai @zckh @zckj)) (ai (ai @zbfn @zbfe) (ai @zbip @zcib)))) := (ai (ai (ai (ai @zckl @zckm) (ai @zbfg @zbn2)) (ai (ai @zbfk @zbfj) (ai @zbfh @zbfi))) (ai (ai (ai @zckk @zcki) (ai @zckh @zckj)) (ai (ai @zbfn @zbfe) (ai @zbip @zcib))))
theorem TT9 : type_of% (ai (ai (ai (ai @zb4g @zbin) (ai @zb4h @zbim)) (ai (ai @zb5v @zbh8) (ai @zcje @zclz))) (ai (ai (ai @zbox @zbh7) (ai @zbh6 @zb5w)) (ai (ai @zbvu @zb5x) (ai @zbu3 @zcl3)))) := (ai (ai (ai (ai @zb4g @zbin) (ai @zb4h @zbim)) (ai (ai @zb5v @zbh8) (ai @zcje @zclz))) (ai (ai (ai @zbox @zbh7) (ai @zbh6 @zb5w)) (ai (ai @zbvu @zb5x) (ai @zbu3 @zcl3))))
theorem zco8 : type_of% (ai (ai (ai (ai @zbnx @zbeu) (ai @zbet @zbut)) (ai (ai @zbuv @zbuu) (ai @zbuw @zbg7))) (ai (ai (ai @zbpp @zbow) (ai @zbpq @zciq)) (ai (ai @zbhu @zcjj) (ai @zcir @zbwm)))) := (ai (ai (ai (ai @zbnx @zbeu) (ai @zbet @zbut)) (ai (ai @zbuv @zbuu) (ai @zbuw @zbg7))) (ai (ai (ai @zbpp @zbow) (ai @zbpq @zciq)) (ai (ai @zbhu @zcjj) (ai @zcir @zbwm))))
theorem zco7 : type_of% (ai (ai (ai (ai @zboj @zbwn) (ai @zbok @zb4i)) (ai (ai @zcly @zbv1) (ai @zbka @zb41))) (ai (ai (ai @zb7s @zbzd) (ai @zbzr @zbj0)) (ai (ai @zcl5 @zb6f) (ai @zckv @zcku)))) := (ai (ai (ai (ai @zboj @zbwn) (ai @zbok @zb4i)) (ai (ai @zcly @zbv1) (ai @zbka @zb41))) (ai (ai (ai @zb7s @zbzd) (ai @zbzr @zbj0)) (ai (ai @zcl5 @zb6f) (ai @zckv @zcku))))
theorem zco6 : type_of% (ai (ai (ai (ai @zb5u @zbvv) (ai @zb7x @zboy)) (ai (ai @zbwo @zbv2) (ai @zbwq @zbj1))) (ai (ai (ai @zber @zckt) (ai @zbj3 @zbdu)) (ai (ai @zclh @zclt) (ai @zcls @zb4k)))) := (ai (ai (ai (ai @zb5u @zbvv) (ai @zb7x @zboy)) (ai (ai @zbwo @zbv2) (ai @zbwq @zbj1))) (ai (ai (ai @zber @zckt) (ai @zbj3 @zbdu)) (ai (ai @zclh @zclt) (ai @zcls @zb4k))))
theorem zco5 : type_of% (ai (ai (ai (ai @zbe3 @zckp) (ai @zclx @zbv9)) (ai (ai @zbv8 @zbv7) (ai @zb7r @zb8n))) (ai (ai (ai @zcl0 @zcl1) (ai @zcl2 @zbvk)) (ai (ai @zbvj @zb4e) (ai @zclu @zbjh)))) := (ai (ai (ai (ai @zbe3 @zckp) (ai @zclx @zbv9)) (ai (ai @zbv8 @zbv7) (ai @zb7r @zb8n))) (ai (ai (ai @zcl0 @zcl1) (ai @zcl2 @zbvk)) (ai (ai @zbvj @zb4e) (ai @zclu @zbjh))))
theorem zco4 : type_of% (ai (ai (ai (ai @zbji @zb3p) (ai @zclv @zbi8)) (ai (ai @zb3v @zbje) (ai @zbjg @zb3r))) (ai (ai (ai @zbjf @zb3q) (ai @zclw @zbwb)) (ai (ai @zb5y @zb5z) (ai @zb50 @zbuy)))) := (ai (ai (ai (ai @zbji @zb3p) (ai @zclv @zbi8)) (ai (ai @zb3v @zbje) (ai @zbjg @zb3r))) (ai (ai (ai @zbjf @zb3q) (ai @zclw @zbwb)) (ai (ai @zb5y @zb5z) (ai @zb50 @zbuy))))
theorem zco3 : type_of% (ai (ai (ai (ai @zbux @zbwj) (ai @zbpi @zbjz)) (ai (ai @zbph @zbjv) (ai @zbju @zbjw))) (ai (ai (ai @zbjy @zbjx) (ai @zbpg @zbpj)) (ai (ai @zbg1 @zci8) (ai @zbg0 @zcj4)))) := (ai (ai (ai (ai @zbux @zbwj) (ai @zbpi @zbjz)) (ai (ai @zbph @zbjv) (ai @zbju @zbjw))) (ai (ai (ai @zbjy @zbjx) (ai @zbpg @zbpj)) (ai (ai @zbg1 @zci8) (ai @zbg0 @zcj4))))
theorem zco2 : type_of% (ai (ai (ai (ai @zcj5 @zcjb) (ai @zci9 @zcja)) (ai (ai @zbhq @zciw) (ai @zb5n @zb5m))) (ai (ai (ai @zbny @zb3u) (ai @zcmw @zb72)) (ai (ai @zb58 @zcms) (ai @zcm9 @zb6d)))) := (ai (ai (ai (ai @zcj5 @zcjb) (ai @zci9 @zcja)) (ai (ai @zbhq @zciw) (ai @zb5n @zb5m))) (ai (ai (ai @zbny @zb3u) (ai @zcmw @zb72)) (ai (ai @zb58 @zcms) (ai @zcm9 @zb6d))))
theorem zco1 : type_of% (ai (ai (ai (ai @zcmt @zb6e) (ai @zcm8 @zch2)) (ai (ai @zcmu @zcm5) (ai @zcm7 @zcm6))) (ai (ai (ai @zb6c @zb6a) (ai @zb59 @zb6b)) (ai (ai @zcmr @zcna) (ai @zcnk @zcj6)))) := (ai (ai (ai (ai @zcmt @zb6e) (ai @zcm8 @zch2)) (ai (ai @zcmu @zcm5) (ai @zcm7 @zcm6))) (ai (ai (ai @zb6c @zb6a) (ai @zb59 @zb6b)) (ai (ai @zcmr @zcna) (ai @zcnk @zcj6))))
theorem zco0 : type_of% (ai (ai (ai (ai @zbgs @zbgl) (ai @zckb @zbgr)) (ai (ai @zckc @zbgm) (ai @zbog @zbgq))) (ai (ai (ai @zbgp @zbgn) (ai @zbgo @zcka)) (ai (ai @zcj8 @zcj7) (ai @zcj9 @zbgt)))) := (ai (ai (ai (ai @zbgs @zbgl) (ai @zckb @zbgr)) (ai (ai @zckc @zbgm) (ai @zbog @zbgq))) (ai (ai (ai @zbgp @zbgn) (ai @zbgo @zcka)) (ai (ai @zcj8 @zcj7) (ai @zcj9 @zbgt))))
theorem zcoz : type_of% (ai (ai (ai (ai @zbgk @zb75) (ai @zb6i @zcn3)) (ai (ai @zcnc @zb6n) (ai @zcn4 @zb6o))) (ai (ai (ai @zcn9 @zcjg) (ai @zcn5 @zcn6)) (ai (ai @zcn8 @zcn7) (ai @zb6m @zb6k)))) := (ai (ai (ai (ai @zbgk @zb75) (ai @zb6i @zcn3)) (ai (ai @zcnc @zb6n) (ai @zcn4 @zb6o))) (ai (ai (ai @zcn9 @zcjg) (ai @zcn5 @zcn6)) (ai (ai @zcn8 @zcn7) (ai @zb6m @zb6k))))
theorem zcoy : type_of% (ai (ai (ai (ai @zb6j @zb6l) (ai @zcn2 @zcnd)) (ai (ai @zb55 @zcmd) (ai @zb4c @zcil))) (ai (ai (ai @zcmi @zb4d) (ai @zcmj @zcik)) (ai (ai @zbix @zcig) (ai @zcih @zcij)))) := (ai (ai (ai (ai @zb6j @zb6l) (ai @zcn2 @zcnd)) (ai (ai @zb55 @zcmd) (ai @zb4c @zcil))) (ai (ai (ai @zcmi @zb4d) (ai @zcmj @zcik)) (ai (ai @zbix @zcig) (ai @zcih @zcij))))
theorem zcox : type_of% (ai (ai (ai (ai @zcii @zcmh) (ai @zcmf @zcme)) (ai (ai @zcmg @zb4b) (ai @zcim @zb54))) (ai (ai (ai @zcl6 @zb32) (ai @zb39 @zcmb)) (ai (ai @zb33 @zcmc) (ai @zb38 @zbiy)))) := (ai (ai (ai (ai @zcii @zcmh) (ai @zcmf @zcme)) (ai (ai @zcmg @zb4b) (ai @zcim @zb54))) (ai (ai (ai @zcl6 @zb32) (ai @zb39 @zcmb)) (ai (ai @zb33 @zcmc) (ai @zb38 @zbiy))))
theorem zcow : type_of% (ai (ai (ai (ai @zb34 @zb35) (ai @zb37 @zb36)) (ai (ai @zcma @zcl8) (ai @zcl7 @zcl9))) (ai (ai (ai @zb31 @zb4a) (ai @zb56 @zcmk)) (ai (ai @zcio @zch0) (ai @zcmp @zcip)))) := (ai (ai (ai (ai @zb34 @zb35) (ai @zb37 @zb36)) (ai (ai @zcma @zcl8) (ai @zcl7 @zcl9))) (ai (ai (ai @zb31 @zb4a) (ai @zb56 @zcmk)) (ai (ai @zcio @zch0) (ai @zcmp @zcip))))
theorem zcov : type_of% (ai (ai (ai (ai @zcmq @zchz) (ai @zbiw @zchv)) (ai (ai @zchw @zchy) (ai @zchx @zcmo))) (ai (ai (ai @zcmm @zcml) (ai @zcmn @zcin)) (ai (ai @zch1 @zb6u) (ai @zcnl @zcjl)))) := (ai (ai (ai (ai @zcmq @zchz) (ai @zbiw @zchv)) (ai (ai @zchw @zchy) (ai @zchx @zcmo))) (ai (ai (ai @zcmm @zcml) (ai @zcmn @zcin)) (ai (ai @zch1 @zb6u) (ai @zcnl @zcjl))))
theorem zcou : type_of% (ai (ai (ai (ai @zcjs @zcnr) (ai @zcjm @zcns)) (ai (ai @zcjr @zbgg) (ai @zcjn @zcjo))) (ai (ai (ai @zcjq @zcjp) (ai @zcnq @zcno)) (ai (ai @zcnn @zcnp) (ai @zcjk @zcjt)))) := (ai (ai (ai (ai @zcjs @zcnr) (ai @zcjm @zcns)) (ai (ai @zcjr @zbgg) (ai @zcjn @zcjo))) (ai (ai (ai @zcjq @zcjp) (ai @zcnq @zcno)) (ai (ai @zcnn @zcnp) (ai @zcjk @zcjt))))
theorem zcot : type_of% (ai (ai (ai (ai @zb4m @zck0) (ai @zbf9 @zbf2)) (ai (ai @zck5 @zbf8) (ai @zck6 @zbf3))) (ai (ai (ai @zbod @zbf7) (ai @zbf6 @zbf4)) (ai (ai @zbf5 @zck4) (ai @zck2 @zck1)))) := (ai (ai (ai (ai @zb4m @zck0) (ai @zbf9 @zbf2)) (ai (ai @zck5 @zbf8) (ai @zck6 @zbf3))) (ai (ai (ai @zbod @zbf7) (ai @zbf6 @zbf4)) (ai (ai @zbf5 @zck4) (ai @zck2 @zck1))))
theorem zcos : type_of% (ai (ai (ai (ai @zck3 @zbga) (ai @zbf1 @zck8)) (ai (ai @zbfx @zbob) (ai @zbn4 @zbfr))) (ai (ai (ai @zboa @zbfq) (ai @zbn5 @zbva)) (ai (ai @zbn9 @zbn8) (ai @zbn6 @zbn7)))) := (ai (ai (ai (ai @zck3 @zbga) (ai @zbf1 @zck8)) (ai (ai @zbfx @zbob) (ai @zbn4 @zbfr))) (ai (ai (ai @zboa @zbfq) (ai @zbn5 @zbva)) (ai (ai @zbn9 @zbn8) (ai @zbn6 @zbn7))))
theorem zcor : type_of% (ai (ai (ai (ai @zbfs @zbfu) (ai @zbfw @zbft)) (ai (ai @zboc @zbn3) (ai @zciu @zbhr))) (ai (ai (ai @zcit @zb82) (ai @zb6v @zcnx)) (ai (ai @zb46 @zb6z) (ai @zcny @zb60)))) := (ai (ai (ai (ai @zbfs @zbfu) (ai @zbfw @zbft)) (ai (ai @zboc @zbn3) (ai @zciu @zbhr))) (ai (ai (ai @zcit @zb82) (ai @zb6v @zcnx)) (ai (ai @zb46 @zb6z) (ai @zcny @zb60))))
theorem zcoq : type_of% (ai (ai (ai (ai @zb45 @zcju) (ai @zcnz @zcn0)) (ai (ai @zb44 @zcn1) (ai @zb6y @zb6w))) (ai (ai (ai @zb6x @zcnw) (ai @zb47 @zb81)) (ai (ai @zb61 @zb48) (ai @zcjw @zcj3)))) := (ai (ai (ai (ai @zb45 @zcju) (ai @zcnz @zcn0)) (ai (ai @zb44 @zcn1) (ai @zb6y @zb6w))) (ai (ai (ai @zb6x @zcnw) (ai @zb47 @zb81)) (ai (ai @zb61 @zb48) (ai @zcjw @zcj3))))
theorem zcop : type_of% (ai (ai (ai (ai @zb5c @zcjx) (ai @zb5d @zcj2)) (ai (ai @zbgb @zcjy) (ai @zcjz @zcj1))) (ai (ai (ai @zcj0 @zb5b) (ai @zb49 @zb5a)) (ai (ai @zcjv @zckz) (ai @zb86 @zciz)))) := (ai (ai (ai (ai @zb5c @zcjx) (ai @zb5d @zcj2)) (ai (ai @zbgb @zcjy) (ai @zcjz @zcj1))) (ai (ai (ai @zcj0 @zb5b) (ai @zb49 @zb5a)) (ai (ai @zcjv @zckz) (ai @zb86 @zciz))))
theorem zcoo : type_of% (ai (ai (ai (ai @zb7e @zbhi) (ai @zb5q @zbou)) (ai (ai @zb5i @zbon) (ai @zb7j @zbhb))) (ai (ai (ai @zb5r @zbot) (ai @zb7k @zbha)) (ai (ai @zb5h @zboo) (ai @zcli @zbvl)))) := (ai (ai (ai (ai @zb7e @zbhi) (ai @zb5q @zbou)) (ai (ai @zb5i @zbon) (ai @zb7j @zbhb))) (ai (ai (ai @zb5r @zbot) (ai @zb7k @zbha)) (ai (ai @zb5h @zboo) (ai @zcli @zbvl))))
theorem zcon : type_of% (ai (ai (ai (ai @zb5s @zbos) (ai @zb5e @zbor)) (ai (ai @zb5g @zbop) (ai @zb5f @zboq))) (ai (ai (ai @zb7i @zbhc) (ai @zb7g @zbhe)) (ai (ai @zb7f @zbhh) (ai @zb7h @zbhd)))) := (ai (ai (ai (ai @zb5s @zbos) (ai @zb5e @zbor)) (ai (ai @zb5g @zbop) (ai @zb5f @zboq))) (ai (ai (ai @zb7i @zbhc) (ai @zb7g @zbhe)) (ai (ai @zb7f @zbhh) (ai @zb7h @zbhd))))
theorem zcom : type_of% (ai (ai (ai (ai @zb5p @zbov) (ai @zb5j @zbom)) (ai (ai @zb7d @zb85) (ai @zbhj @zciy))) (ai (ai (ai @zclr @zbdr) (ai @zb57 @zb4r)) (ai (ai @zcmx @zb53) (ai @zcmy @am)))) := (ai (ai (ai (ai @zb5p @zbov) (ai @zb5j @zbom)) (ai (ai @zb7d @zb85) (ai @zbhj @zciy))) (ai (ai (ai @zclr @zbdr) (ai @zb57 @zb4r)) (ai (ai @zcmx @zb53) (ai @zcmy @am))))
theorem zcol : type_of% (ai (ai (ai (ai @ag @zbg5) (ai @zaqi @az)) (ai (ai @ah @zbho) (ai @zbhn @zbwa))) (ai (ai (ai @zb3w @zbqg) (ai @zcnu @zcnv)) (ai (ai @zch4 @jf) (ai @zb65 @zb83)))) := (ai (ai (ai (ai @ag @zbg5) (ai @zaqi @az)) (ai (ai @ah @zbho) (ai @zbhn @zbwa))) (ai (ai (ai @zb3w @zbqg) (ai @zcnu @zcnv)) (ai (ai @zch4 @jf) (ai @zb65 @zb83))))
theorem zcok : type_of% (ai (ai (ai (ai @zb62 @zcar) (ai @zb76 @zbno)) (ai (ai @zbna @zbng) (ai @zbnn @zbus))) (ai (ai (ai @zbm9 @zbnh) (ai @zbni @zbnj)) (ai (ai @zbnk @zbnl) (ai @zbnf @zbne)))) := (ai (ai (ai (ai @zb62 @zcar) (ai @zb76 @zbno)) (ai (ai @zbna @zbng) (ai @zbnn @zbus))) (ai (ai (ai @zbm9 @zbnh) (ai @zbni @zbnj)) (ai (ai @zbnk @zbnl) (ai @zbnf @zbne))))
theorem zcoj : type_of% (ai (ai (ai (ai @zbnd @zbnc) (ai @zbnb @zbnm)) (ai (ai @zbeb @zbea) (ai @zbm0 @zbmz))) (ai (ai (ai @zbm1 @zb74) (ai @zbhf @zbhw)) (ai (ai @zbg9 @zbhg) (ai @zbhv @zbhx)))) := (ai (ai (ai (ai @zbnd @zbnc) (ai @zbnb @zbnm)) (ai (ai @zbeb @zbea) (ai @zbm0 @zbmz))) (ai (ai (ai @zbm1 @zb74) (ai @zbhf @zbhw)) (ai (ai @zbg9 @zbhg) (ai @zbhv @zbhx))))
theorem zcoi : type_of% (ai (ai (ai (ai @zbiq @zb8j) (ai @zb89 @zb9d)) (ai (ai @zbjm @zckr) (ai @zckq @zb4u))) (ai (ai (ai @zcks @zb4v) (ai @zb4t @zb7q)) (ai (ai @zb4q @zb4n) (ai @zbfy @zck7)))) := (ai (ai (ai (ai @zbiq @zb8j) (ai @zb89 @zb9d)) (ai (ai @zbjm @zckr) (ai @zckq @zb4u))) (ai (ai (ai @zcks @zb4v) (ai @zb4t @zb7q)) (ai (ai @zb4q @zb4n) (ai @zbfy @zck7))))
theorem zcoh : type_of% (ai (ai (ai (ai @zb4s @zch6) (ai @zch5 @List.map_cons.{0,0})) (ai (ai @List.map_nil.{0,0} @List.getD_cons_zero.{0}) (ai @List.getD_cons_succ.{0} @List.getElem?_cons_zero.{0}))) (ai (ai (ai @List.getElem?_cons_succ.{0} @List.length_cons.{0}) (ai @List.length_nil.{0} @List.drop_succ_cons.{0})) (ai (ai @List.drop_zero.{0} @List.take_succ_cons.{0}) (ai @List.take_zero.{0} @List.take_nil.{0})))) := (ai (ai (ai (ai @zb4s @zch6) (ai @zch5 @List.map_cons.{0,0})) (ai (ai @List.map_nil.{0,0} @List.getD_cons_zero.{0}) (ai @List.getD_cons_succ.{0} @List.getElem?_cons_zero.{0}))) (ai (ai (ai @List.getElem?_cons_succ.{0} @List.length_cons.{0}) (ai @List.length_nil.{0} @List.drop_succ_cons.{0})) (ai (ai @List.drop_zero.{0} @List.take_succ_cons.{0}) (ai @List.take_zero.{0} @List.take_nil.{0}))))
theorem zcog : type_of% (ai (ai (ai (ai @List.take_length.{0} @List.set_cons_zero.{0}) (ai @List.set_cons_succ.{0} @Option.map_some.{0,0})) (ai (ai @Option.map_none.{0,0} @Option.bind_some.{0,0}) (ai @and_true @true_and))) (ai (ai (ai @Bool.not_true @Bool.not_false) (ai @List.all_cons.{0} @List.all_nil.{0})) (ai (ai @Bool.and_true @Bool.true_and) (ai @Bool.and_self @not_false_eq_true)))) := (ai (ai (ai (ai @List.take_length.{0} @List.set_cons_zero.{0}) (ai @List.set_cons_succ.{0} @Option.map_some.{0,0})) (ai (ai @Option.map_none.{0,0} @Option.bind_some.{0,0}) (ai @and_true @true_and))) (ai (ai (ai @Bool.not_true @Bool.not_false) (ai @List.all_cons.{0} @List.all_nil.{0})) (ai (ai @Bool.and_true @Bool.true_and) (ai @Bool.and_self @not_false_eq_true))))
theorem zcof : type_of% (ai (ai (ai (ai @Nat.zero_add @Nat.le_refl) (ai @Nat.add_zero @Nat.zero_mul)) (ai (ai @Nat.mul_one @Nat.one_mul) (ai @Int.toNat_zero @Int.toNat_natCast))) (ai (ai (ai @List.nil_append.{0} @List.cons_append.{0}) (ai @List.append_nil.{0} @cond_true.{1})) (ai (ai @cond_false.{1} @if_true.{1}) (ai @if_false.{1} @List.length_map.{0,0})))) := (ai (ai (ai (ai @Nat.zero_add @Nat.le_refl) (ai @Nat.add_zero @Nat.zero_mul)) (ai (ai @Nat.mul_one @Nat.one_mul) (ai @Int.toNat_zero @Int.toNat_natCast))) (ai (ai (ai @List.nil_append.{0} @List.cons_append.{0}) (ai @List.append_nil.{0} @cond_true.{1})) (ai (ai @cond_false.{1} @if_true.{1}) (ai @if_false.{1} @List.length_map.{0,0}))))
theorem zcoe : type_of% (ai (ai (ai @List.length_append.{0} @not_true_eq_false) (ai @decide_eq_true_eq (ai @or_true @true_or))) (ai (ai @or_false (ai @false_or @ne_eq.{1})) (ai @eq_self.{1} (ai @bne_self_eq_false.{0} @beq_self_eq_true.{0})))) := (ai (ai (ai @List.length_append.{0} @not_true_eq_false) (ai @decide_eq_true_eq (ai @or_true @true_or))) (ai (ai @or_false (ai @false_or @ne_eq.{1})) (ai @eq_self.{1} (ai @bne_self_eq_false.{0} @beq_self_eq_true.{0}))))
theorem TT : type_of% (ai (ai (ai (ai (ai @TT0 @TT1) (ai @TT2 (ai @TT3 @TT4))) (ai (ai @TT5 @TT6) (ai @TT7 (ai @TT8 @TT9)))) (ai (ai (ai @zco8 @zco7) (ai @zco6 (ai @zco5 @zco4))) (ai (ai @zco3 @zco2) (ai @zco1 (ai @zco0 @zcoz))))) (ai (ai (ai (ai @zcoy @zcox) (ai @zcow (ai @zcov @zcou))) (ai (ai @zcot @zcos) (ai @zcor (ai @zcoq @zcop)))) (ai (ai (ai @zcoo @zcon) (ai @zcom (ai @zcol @zcok))) (ai (ai @zcoj (ai @zcoi @zcoh)) (ai @zcog (ai @zcof @zcoe)))))) := (ai (ai (ai (ai (ai @TT0 @TT1) (ai @TT2 (ai @TT3 @TT4))) (ai (ai @TT5 @TT6) (ai @TT7 (ai @TT8 @TT9)))) (ai (ai (ai @zco8 @zco7) (ai @zco6 (ai @zco5 @zco4))) (ai (ai @zco3 @zco2) (ai @zco1 (ai @zco0 @zcoz))))) (ai (ai (ai (ai @zcoy @zcox) (ai @zcow (ai @zcov @zcou))) (ai (ai @zcot @zcos) (ai @zcor (ai @zcoq @zcop)))) (ai (ai (ai @zcoo @zcon) (ai @zcom (ai @zcol @zcok))) (ai (ai @zcoj (ai @zcoi @zcoh)) (ai @zcog (ai @zcof @zcoe))))))
end Go.Proofs.Ytdcfoaafkppojaa.Sh
