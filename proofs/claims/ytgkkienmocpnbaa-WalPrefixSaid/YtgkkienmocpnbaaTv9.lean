import Derived.Test.YtgkkienmocpnbaaTv8
set_option linter.unusedVariables false
set_option linter.unusedSimpArgs false
/- The tree level: evaluation, step by step: printed by a program of ours. -/
namespace Go.Proofs.Ytgkkienmocpnbaa.Sh
open Go Go.RowKit
def pK (o:Option TV) (d:Option Nat) (K:ak) (fr:TF) (tk:TK) (τ:TH):Prop:=match o with | some v => K (dh fr d v) tk τ | none => False
def zbft (lv:List Nat) (tk:TK) (τ:TH) (fr':TF) (tk':TK) (τ':TH) (K:ak):Prop:=if ltL τ.next tk.length (lv.map fun t => lkp fr' t) = true then K (sel lv fr') (tk'.take tk.length) (τ'.cut τ.next) else K (sel lv fr') tk' τ'
def fzK (o:Option TV) (τ:TH) (K:TV → TH → Prop) (τ':TH):Prop:=match o with | some u => K u (τ'.cut τ.next) | none => False
def rtK (o:Option TV) (τ:TH) (K:TV → TH → Prop) (τ':TH):Prop:=match o with | some v => (if v.canT.under τ.next then K v.canT (τ'.cut τ.next) else v.canT.under τ'.next = true ∧ K v.canT τ') | none => False
def pl (l:List ap):List (ap × List Nat):=l.map fun x => (x,[])
def tLD (Γ:FuncId → Option TG):List ap → ak → ak
 | [],K => K
 | ⟨⟨d,i,none⟩,m⟩ :: r,K => fun fr tk τ => tG Γ true i m d (tLD Γ r K) fr tk τ
 | ⟨⟨d,i,some (t,b)⟩,m⟩ :: r,K => fun fr tk τ => gdK Γ true (lkp fr t) b i m d (tLD Γ r K) fr tk τ
section
variable (Γ:FuncId → Option TG) (dr:Bool) (d:Option Nat) (K:ak) (fr fr':TF) (tk tk':TK) (τ τ':TH) (Q:TEx → ak) (a b:TC) (lv:List Nat) (r:List ap) (m:Nat)
theorem zbg8:∀ (l:List ap) (n:Nat) (told:List (Nat × Ins)) (K:ak),tD Γ n (pl l) K told = tLD Γ l K
 | [],n,told,K => rfl
 | ⟨⟨d,i,g⟩,m⟩ :: r,n,told,K => by
  funext fr tk τ
  cases g with
  | none =>
   show tG Γ true i m d (pnK _ n fr τ told [] (tD Γ (n + 1) (pl r) K)) fr tk τ = tG Γ true i m d (tLD Γ r K) fr tk τ
   have q:pnK ⟨⟨d,i,none⟩,m⟩ n fr τ told [] (tD Γ (n + 1) (pl r) K) = tLD Γ r K:=by
    funext fr' tk' τ'
    unfold pnK
    simp [zbg8 r]
   rw [q]
  | some tb =>
   obtain ⟨t,b⟩:=tb
   show gdK Γ true (lkp fr t) b i m d (pnK _ n fr τ told [] (tD Γ (n + 1) (pl r) K)) fr tk τ = gdK Γ true (lkp fr t) b i m d (tLD Γ r K) fr tk τ
   have q:pnK ⟨⟨d,i,some (t,b)⟩,m⟩ n fr τ told [] (tD Γ (n + 1) (pl r) K) = tLD Γ r K:=by
    funext fr' tk' τ'
    unfold pnK
    simp [zbg8 r]
   rw [q]
def tSp (Γ:FuncId → Option TG) (o:Option ap) (K:ak):ak:=fun fr tk τ => match o with
 | some ⟨⟨d,i,none⟩,m⟩ => tG Γ true i m d K fr tk τ
 | some ⟨⟨d,i,some (t,b)⟩,m⟩ => gdK Γ true (lkp fr t) b i m d K fr tk τ
 | none => False
def tTp (Γ:FuncId → Option TG) (lv:List Nat) (l:List ap):DTr Nat → ak → ak
 | .nil,K => K
 | .cons k r,K => tSp Γ l[k]? (tTp Γ lv l r K)
 | .alt k r j q,K => fun fr tk τ => tSp Γ l[k]? (tTp Γ lv l r fun fr1 tk1 τ1 => tSp Γ l[j]? (tTp Γ lv l q fun fr2 tk2 τ2 => (sel lv fr1 = sel lv fr2 ∧ tk1 = tk2 ∧ τ1 = τ2) ∧ K fr1 tk1 τ1) fr tk τ) fr tk τ
theorem zbg5 (l:List ap) (k:Nat) (told:List (Nat × Ins)) (K:ak) (K':List (Nat × Ins) → ak) (hK:∀ t,K' t = K):tS Γ (pl l) (pl l)[k]? k told K' = tSp Γ l[k]? K:=by
 have e:(pl l)[k]? = (l[k]?).map fun x => (x,[]):=by unfold pl; rw [List.getElem?_map]
 rw [e]
 generalize pl l = L
 funext fr tk τ
 cases l[k]? with
 | none => rfl
 | some x =>
  obtain ⟨⟨d,i,g⟩,m⟩:=x
  cases g with
  | none =>
   show tG Γ true i m d (pnT L _ k fr τ told [] K') fr tk τ = tG Γ true i m d K fr tk τ
   have q:pnT L ⟨⟨d,i,none⟩,m⟩ k fr τ told [] K' = K:=by
    funext fr' tk' τ'
    unfold pnT
    simp [hK]
   rw [q]
  | some tb =>
   obtain ⟨t,b⟩:=tb
   show gdK Γ true (lkp fr t) b i m d (pnT L _ k fr τ told [] K') fr tk τ = gdK Γ true (lkp fr t) b i m d K fr tk τ
   have q:pnT L ⟨⟨d,i,some (t,b)⟩,m⟩ k fr τ told [] K' = K:=by
    funext fr' tk' τ'
    unfold pnT
    simp [hK]
   rw [q]
theorem zbch (l:List ap):∀ (t:DTr Nat) (K:ak) (K':List (Nat × Ins) → ak) (hK:∀ t,K' t = K) (told:List (Nat × Ins)),tT Γ lv (pl l) t K' told = tTp Γ lv l t K
 | .nil,K,K',hK,told => hK told
 | .cons k r,K,K',hK,told => zbg5 Γ l k told _ _ fun t => zbch l r K K' hK t
 | .alt k r j q,K,K',hK,told => by
  funext fr tk τ
  show tS Γ (pl l) (pl l)[k]? k told (tT Γ lv (pl l) r _) fr tk τ = tSp Γ l[k]? (tTp Γ lv l r _) fr tk τ
  refine congrFun (congrFun (congrFun (zbg5 Γ l k told _ _ fun t => zbch l r _ _ (fun t1 => ?_) t) fr) tk) τ
  funext fr1 tk1 τ1
  refine congrFun (congrFun (congrFun (zbg5 Γ l j told _ _ fun t => zbch l q _ _ (fun t2 => ?_) t) fr) tk) τ
  funext fr2 tk2 τ2
  rw [hK]
def zbit (Γ:FuncId → Option TG) (l:List ap):List (DTr Nat × List Nat) → ak → ak
 | [],K => K
 | (t,lv) :: r,K => tTp Γ lv l t fun fr' tk' τ' => zbit Γ l r K (sel lv fr') tk' τ'
theorem zbee (l:List ap):∀ (t:List (DTr Nat × List Nat)) (K:ak) (told:List (Nat × Ins)),tSg Γ (pl l) t K told = zbit Γ l t K
 | [],K,told => rfl
 | (t,lv) :: r,K,told => zbch Γ lv l t _ _ (fun t' => by funext fr' tk' τ'; rw [zbee l r K t']) told
theorem zbfw:tW Γ .skip Q fr tk τ = Q .normal fr tk τ:=zbg0
theorem zbfx (id:Nat):tW Γ (.exit id) Q fr tk τ = Q (.exit id) fr tk τ:=zbg2
theorem zblp:tW Γ (.ret lv) Q fr tk τ = Q .ret (sel lv fr) tk τ:=zbkk
theorem zblq:tW Γ (.ops r) Q fr tk τ = tL Γ r (Q .normal) fr tk τ:=zbkl
theorem zb0w (t:List (DTr Nat × List Nat)):tW Γ (.drawT (pl r) t) Q fr tk τ = zbit Γ r t (Q .normal) fr tk τ:=by rw [zbce,zbee]
theorem zb5i:zbit Γ r [] K = K:=rfl
theorem zbty (t:DTr Nat) (q:List (DTr Nat × List Nat)):zbit Γ r ((t,lv) :: q) K fr tk τ = tTp Γ lv r t (fun fr1 tk1 τ1 => zbit Γ r q K (sel lv fr1) tk1 τ1) fr tk τ:=rfl
theorem zape:tTp Γ lv r .nil K = K:=rfl
theorem zb5l (k:Nat) (t:DTr Nat):tTp Γ lv r (.cons k t) K = tSp Γ r[k]? (tTp Γ lv r t K):=rfl
theorem zapm (k j:Nat) (t q:DTr Nat):tTp Γ lv r (.alt k t j q) K fr tk τ = tSp Γ r[k]? (tTp Γ lv r t fun fr1 tk1 τ1 => tSp Γ r[j]? (tTp Γ lv r q fun fr2 tk2 τ2 => (sel lv fr1 = sel lv fr2 ∧ tk1 = tk2 ∧ τ1 = τ2) ∧ K fr1 tk1 τ1) fr tk τ) fr tk τ:=rfl
theorem zb5j (i:I):tSp Γ (some ⟨⟨d,i,none⟩,m⟩) K fr tk τ = tG Γ true i m d K fr tk τ:=rfl
theorem zb5k (i:I) (t:Nat) (b:Bool):tSp Γ (some ⟨⟨d,i,some (t,b)⟩,m⟩) K fr tk τ = gdK Γ true (lkp fr t) b i m d K fr tk τ:=rfl
theorem zbba:tW Γ (.draw (pl r)) Q fr tk τ = tLD Γ r (Q .normal) fr tk τ:=by rw [zbg3,zbg8]
theorem zblo:tW Γ (.seq a b) Q fr tk τ = tW Γ a (zaf7 (tW Γ b Q) Q) fr tk τ:=zbkj
theorem zbfy (c:Operand):tW Γ (.cond c a b) Q fr tk τ = cT Γ (tO fr c) a b Q fr tk τ:=zbg4
theorem zbbc (id:Nat):tW Γ (.block id lv a) Q fr tk τ = tW Γ a (ug id lv tk τ Q) fr tk τ:=zbcg
theorem zbbb:tW Γ (.clean lv a) Q fr tk τ = tW Γ a Q (sel lv fr) tk τ:=zbcf
theorem zbas (c:Bool):cT Γ (.bool c) a b Q fr tk τ = if c = true then tW Γ a Q fr tk τ else tW Γ b Q fr tk τ:=rfl
theorem zae4 (n:ak):zaf7 n Q .normal = n:=rfl
theorem zae0 (n:ak):zaf7 n Q .ret = Q .ret:=rfl
theorem zaf6 (n:ak) (id:Nat):zaf7 n Q (.exit id) = Q (.exit id):=rfl
theorem zb06 (id:Nat):ug id lv tk τ Q .normal fr' tk' τ' = zbft lv tk τ fr' tk' τ' (Q .normal):=by unfold ug zbft lm; simp only [true_or,if_true]; split <;> rfl
theorem zb05 (id:Nat):ug id lv tk τ Q (.exit id) fr' tk' τ' = zbft lv tk τ fr' tk' τ' (Q .normal):=by unfold ug zbft lm; simp only [or_true,if_true]; split <;> rfl
theorem zbq9 (id j:Nat) (h:(j = id) = False):ug id lv tk τ Q (.exit j) = Q (.exit j):=by funext fr tk τ; unfold ug; simp [h]
theorem zb07 (id:Nat):ug id lv tk τ Q .ret = Q .ret:=by funext fr tk τ; unfold ug; simp
theorem zbp9 (Q:TEx → ak):za9b Γ lv a tk τ Q .normal fr' tk' τ' = zbft lv tk τ fr' tk' τ' (tW Γ (.loop lv a) Q):=by simp only [za9b,zbft,lm]; split <;> rfl
theorem za89 (Q:TEx → ak):za9b Γ lv a tk τ Q .ret = Q .ret:=rfl
theorem za9a (Q:TEx → ak) (id:Nat):za9b Γ lv a tk τ Q (.exit id) = Q (.exit id):=rfl
theorem zbax:zbft lv tk τ fr' tk' τ' K = if ltL τ.next tk.length (lv.map fun t => lkp fr' t) = true then K (sel lv fr') (tk'.take tk.length) (τ'.cut τ.next) else K (sel lv fr') tk' τ':=rfl
theorem zbem (rs:List R) (K:TV → TH → Prop):zbcp rs false τ K .ret fr tk τ' = rtK (jo rs fr τ') τ K τ':=by unfold zbcp rtK; cases jo rs fr τ' <;> simp
theorem zben (rs:List R) (K:TV → TH → Prop):zbcp rs false τ K .normal fr tk τ' = rtK (jo rs fr τ') τ K τ':=by unfold zbcp rtK; cases jo rs fr τ' <;> simp
theorem zawe (rs:List R) (K:TV → TH → Prop):zbcp rs true τ K .ret fr tk τ' = fzK ((jo rs fr τ').bind (tfz τ' τ.next)) τ K τ':=by unfold zbcp fzK; cases h:jo rs fr τ' with | none => simp | some v => simp only [Option.bind_some,or_true,true_and,if_true]; cases tfz τ' τ.next v <;> rfl
theorem zax0 (rs:List R) (K:TV → TH → Prop):zbcp rs true τ K .normal fr tk τ' = fzK ((jo rs fr τ').bind (tfz τ' τ.next)) τ K τ':=by unfold zbcp fzK; cases h:jo rs fr τ' with | none => simp | some v => simp only [Option.bind_some,true_or,true_and,if_true]; cases tfz τ' τ.next v <;> rfl
theorem zb25 (v:TV) (K:TV → TH → Prop):fzK (some v) τ K τ' = K v (τ'.cut τ.next):=rfl
theorem zb4k (v:TV) (K:TV → TH → Prop):rtK (some v) τ K τ' = if v.canT.under τ.next then K v.canT (τ'.cut τ.next) else v.canT.under τ'.next = true ∧ K v.canT τ':=rfl
theorem zbdr (r:R):jo [r] fr τ = uo fr τ r:=rfl
theorem zbds:jo [] fr τ = some (.tup []):=rfl
theorem zbdq (r1 r2:R) (l:List R):jo (r1 :: r2 :: l) fr τ = (o6 fr τ (r1 :: r2 :: l)).map .tup:=rfl
def zblg (a:Option TV) (b:Option (List TV)):Option (List TV):=match a,b with | some x,some y => some (x :: y) | _,_ => none
theorem zbyn:o6 fr τ [] = some []:=rfl
theorem zbz0 (r:R) (l:List R):o6 fr τ (r :: l) = zblg (uo fr τ r) (o6 fr τ l):=rfl
theorem zbva (x:TV) (y:List TV):zblg (some x) (some y) = some (x :: y):=rfl
def ld1 (τ:TH):TV → Option TV | .ptr id off => zbb2 τ id off | .rptr cs off => cs[off]? | _ => none
def ldN (n:Nat) (τ:TH):TV → Option TV | .ptr id off => if n = 0 then none else (j7 τ id off n).map .agg | .rptr cs off => if off + n ≤ cs.length then some (.agg ((cs.drop off).take n)) else none | _ => none
def rd1 (τ:TH):TV → Option TV | .ptr id off => zbb2 τ id off | _ => none
def rdN (n:Nat) (τ:TH):TV → Option TV | .ptr id off => if n = 0 then none else (j7 τ id off n).map .agg | _ => none
theorem zbxy (t:Nat):uo fr τ (.tmp t) = some (lkp fr t):=rfl
theorem zbv9 (t:Nat):uo fr τ (.cell1 t) = rd1 τ (lkp fr t):=rfl
theorem zbwa (t n:Nat):uo fr τ (.cellN t n) = rdN n τ (lkp fr t):=rfl
theorem za4j (id off:Nat):rd1 τ (.ptr id off) = zbb2 τ id off:=rfl
theorem za3x (n id off:Nat):rdN n τ (.ptr id off) = if n = 0 then none else (j7 τ id off n).map .agg:=rfl
theorem zbeg:tL Γ [] K = K:=rfl
theorem zaqf (i:I):tL Γ (⟨⟨d,i,none⟩,m⟩ :: r) K fr tk τ = tG Γ false i m d (tL Γ r K) fr tk τ:=rfl
theorem zaqe (i:I) (t:Nat) (b:Bool):tL Γ (⟨⟨d,i,some (t,b)⟩,m⟩ :: r) K fr tk τ = gdK Γ false (lkp fr t) b i m d (tL Γ r K) fr tk τ:=rfl
theorem zaqh:tLD Γ [] K = K:=rfl
theorem zb5e (i:I):tLD Γ (⟨⟨d,i,none⟩,m⟩ :: r) K fr tk τ = tG Γ true i m d (tLD Γ r K) fr tk τ:=rfl
theorem zb5f (i:I) (t:Nat) (b:Bool):tLD Γ (⟨⟨d,i,some (t,b)⟩,m⟩ :: r) K fr tk τ = gdK Γ true (lkp fr t) b i m d (tLD Γ r K) fr tk τ:=rfl
theorem zbk7 (i:I):gdK Γ dr (.bool true) true i m d K fr tk τ = tG Γ dr i m d K fr tk τ:=by simp [gdK]
theorem zbla (i:I):gdK Γ dr (.bool false) false i m d K fr tk τ = tG Γ dr i m d K fr tk τ:=by simp [gdK]
theorem zbk8 (i:I):gdK Γ dr (.bool true) false i m d K fr tk τ = K (dh fr d (.tup [])) tk τ:=by simp [gdK]
theorem zbk9 (i:I):gdK Γ dr (.bool false) true i m d K fr tk τ = K (dh fr d (.tup [])) tk τ:=by simp [gdK]
theorem zbfo (i:I) (b:Bool):gdK Γ dr (.tup []) b i m d K fr tk τ = K (dh fr d (.tup [])) tk τ:=rfl
theorem zbga (f:FuncId) (args:List Operand):tG Γ dr (.call f args) 0 d K fr tk τ = d9 Γ dr f (args.map fun a => (tO fr a).canT) d K fr tk τ:=rfl
theorem zbbt (f:FuncId) (args:List Operand):tG Γ dr (.call f args) 1 d K fr tk τ = zbno Γ f (j3 (tfz τ 0) (args.map (tO fr))) d K fr tk τ:=rfl
theorem zb46 (f:TV → Option TV):j3 f [] = some []:=rfl
def zbq8 (a:Option TV) (b:Option (List TV)):Option (List TV):=match a,b with | some x,some y => some (x :: y) | _,_ => none
theorem zbt1 (f:TV → Option TV) (v:TV) (l:List TV):j3 f (v :: l) = zbq8 (f v) (j3 f l):=rfl
theorem zbus (v:TV) (l:List TV):zbq8 (some v) (some l) = some (v :: l):=rfl
theorem zajp (n0:Nat) (cs:List TV):tfz τ n0 (.agg cs) = (j3 (i8 τ n0 2) cs).map .agg:=rfl
theorem zb5b (n0:Nat) (b:Bool):tfz τ n0 (.bool b) = some (TV.bool b):=rfl
theorem zbt2 (n0:Nat) (b:Bool):i8 τ n0 2 (.bool b) = some (TV.bool b):=rfl
theorem zajo (n0:Nat) (k:IntKind) (n:Int):tfz τ n0 (.int k n) = some (TV.int k n):=rfl
theorem zb47 (n0:Nat) (k:IntKind) (n:Int):i8 τ n0 2 (.int k n) = some (TV.int k n):=rfl
theorem zaf8 (n0:Nat) (s:ByteArray):tfz τ n0 (.str s) = some (TV.str s):=rfl
theorem zb5a (n0:Nat) (s:ByteArray):i8 τ n0 2 (.str s) = some (TV.str s):=rfl
theorem zbdu (n0:Nat) (l:List TV):tfz τ n0 (.sl l) = some (TV.sl l):=rfl
theorem zakt (n0:Nat) (l:List TV):i8 τ n0 2 (.sl l) = some (TV.sl l):=rfl
theorem zajl (n0:Nat) (k:Nat) (l:List TV):tfz τ n0 (.sla k l) = some (TV.sl l):=rfl
theorem zb48 (n0:Nat) (k:Nat) (l:List TV):i8 τ n0 2 (.sla k l) = some (TV.sl l):=rfl
theorem zaf9 (n0:Nat):tfz τ n0 .slz = some (.sl []):=rfl
theorem zb49 (n0:Nat):i8 τ n0 2 .slz = some (.sl []):=rfl
theorem zag4 (n0 id off n sz:Nat):tfz τ n0 (.slm id off n sz) = i8 τ n0 2 (.slm id off n sz):=rfl
theorem zbbs (f:FuncId) (args:List Operand):tG Γ dr (.callW f args) m d K fr tk τ = d9 Γ false f (args.map fun a => (tO fr a).canT) d K fr tk τ:=rfl
def cvK (Γ:FuncId → Option TG) (dr:Bool) (v:TV) (args:List TV) (d:Option Nat) (K:ak) (fr:TF) (tk:TK) (τ:TH):Prop:=match v with | .func f a b => d9 Γ dr f (a ++ args ++ b) d K fr tk τ | _ => False
theorem zbbr (x:Operand) (args:List Operand):tG Γ dr (.callv x args) m d K fr tk τ = cvK Γ dr (tO fr x) (args.map fun a => (tO fr a).canT) d K fr tk τ:=by unfold cvK; rfl
theorem zb1h (x:Operand) (args:List Operand):tG Γ dr (.callvW x args) m d K fr tk τ = cvK Γ false (tO fr x) (args.map fun a => (tO fr a).canT) d K fr tk τ:=by unfold cvK; rfl
theorem zbad (f:FuncId) (p q args:List TV):cvK Γ dr (.func f p q) args d K fr tk τ = d9 Γ dr f (p ++ args ++ q) d K fr tk τ:=rfl
theorem za8f (v:TV):pK (some v) d K fr tk τ = K (dh fr d v) tk τ:=rfl
theorem zbe2 (c:Prop) [Decidable c] (v:TV):pK (if c then some v else none) d K fr tk τ = (c ∧ K (dh fr d v) tk τ):=by unfold pK; by_cases h:c <;> simp [h]
theorem zb3f (v:TV):opK (some (v,tk',τ')) d K fr = K (dh fr d v) tk' τ':=rfl
theorem zbqc (c:Prop) [Decidable c] (x:TV × TK × TH):opK (if c then some x else none) d K fr = (c ∧ opK (some x) d K fr):=by unfold opK; by_cases h:c <;> simp [h]
theorem zblt (x:Operand):tG Γ dr (.mov x) 0 d K fr tk τ = K (dh fr d (tO fr x)) tk τ:=rfl
theorem zbf5 (x:Operand):tG Γ dr (.mov x) 3 d K fr tk τ = K (dh fr d (tO fr x).canT) tk τ:=rfl
def za8v (v:TV) (d:Option Nat) (K:ak) (fr:TF) (tk:TK) (τ:TH):Prop:=match v with | .slz => K (dh fr d (.sla tk.length [])) (tk ++ [some (0,0)]) τ | _ => False
theorem zbf6 (x:Operand):tG Γ dr (.mov x) 1 d K fr tk τ = za8v (tO fr x) d K fr tk τ:=by unfold za8v; simp only [tG,tOp,if_true]; cases tO fr x <;> rfl
theorem zb21:za8v .slz d K fr tk τ = K (dh fr d (.sla tk.length [])) (tk ++ [some (0,0)]) τ:=rfl
def zbhg (c a b:TV):Option TV:=match c with | .bool t => some (bif t then a else b) | _ => none
theorem fe (o:Option TV):opK (o.map fun v => (v,tk,τ)) d K fr = pK o d K fr tk τ:=by cases o <;> rfl
theorem zbf4 (c a b:Operand):tG Γ dr (.pick c a b) m d K fr tk τ = pK (zbhg (tO fr c) (tO fr a) (tO fr b)) d K fr tk τ:=(fe d K fr tk τ (tP (.pick c a b) fr τ)).trans (by unfold zbhg; rfl)
theorem za8d (t:Bool) (v w:TV):zbhg (.bool t) v w = some (bif t then v else w):=rfl
theorem zbbo (x:Operand):tG Γ dr (.load1 x) 0 d K fr tk τ = pK (ld1 τ (tO fr x)) d K fr tk τ:=(fe d K fr tk τ (tP (.load1 x) fr τ)).trans (by unfold ld1; rfl)
theorem za9o (id off:Nat):ld1 τ (.ptr id off) = zbb2 τ id off:=rfl
theorem zb2j (cs:List TV) (off:Nat):ld1 τ (.rptr cs off) = cs[off]?:=rfl
theorem zbbm (n:Nat) (x:Operand):tG Γ dr (.loadN n x) m d K fr tk τ = pK (ldN n τ (tO fr x)) d K fr tk τ:=(fe d K fr tk τ (tP (.loadN n x) fr τ)).trans (by unfold ldN; rfl)
theorem za9n (n id off:Nat):ldN n τ (.ptr id off) = if n = 0 then none else (j7 τ id off n).map .agg:=rfl
theorem zb2k (n:Nat) (cs:List TV) (off:Nat):ldN n τ (.rptr cs off) = if off + n ≤ cs.length then some (.agg ((cs.drop off).take n)) else none:=rfl
def zbkw:TV → Option TV | .ptr id off => some (.ptr id off) | .rptr cs off => some (.rptr cs off) | .func f a b => some (.func f a b) | _ => none
theorem zb1l (x:Operand):tG Γ dr (.nilchk x) m d K fr tk τ = pK (zbkw (tO fr x)) d K fr tk τ:=(fe d K fr tk τ (tP (.nilchk x) fr τ)).trans (by unfold zbkw; rfl)
theorem zb20 (id off:Nat):zbkw (.ptr id off) = some (.ptr id off):=rfl
theorem zbsv (cs:List TV) (off:Nat):zbkw (.rptr cs off) = some (.rptr cs off):=rfl
theorem zbsu (f:FuncId) (p q:List TV):zbkw (.func f p q) = some (.func f p q):=rfl
theorem zblz (op:BinOp) (x y:Operand):tG Γ dr (.bin op x y) m d K fr tk τ = pK (yd op (tO fr x) (tO fr y)) d K fr tk τ:=(fe d K fr tk τ (tP (.bin op x y) fr τ)).trans (by rfl)
def eqb (neg:Bool) (p q:TV):Option TV:=match p,q with | .bool p,.bool q => some (.bool (bif neg then p != q else p == q)) | _,_ => none
theorem zblx (neg:Bool) (x y:Operand):tG Γ dr (.eqB neg x y) m d K fr tk τ = pK (eqb neg (tO fr x) (tO fr y)) d K fr tk τ:=(fe d K fr tk τ (tP (.eqB neg x y) fr τ)).trans (by unfold eqb; rfl)
theorem zbfr (neg p q:Bool):eqb neg (.bool p) (.bool q) = some (.bool (bif neg then p != q else p == q)):=rfl
theorem zbbp (k:NK) (neg:Bool) (x:Operand):tG Γ dr (.isNil k neg x) m d K fr tk τ = pK ((kj k (tO fr x)).map fun b => .bool (bif neg then !b else b)) d K fr tk τ:=(fe d K fr tk τ (tP (.isNil k neg x) fr τ)).trans (by rfl)
theorem zbxu :kj .p (.nilP) = some true:=rfl
theorem zbv6 (i o:Nat):kj .p (.ptr i o) = some false:=rfl
theorem zbxv (c:List TV) (o:Nat):kj .p (.rptr c o) = some false:=rfl
theorem zbv8 :kj .s (.slz) = some true:=rfl
theorem zbt3 (v:TV) (l:List TV):kj .s (.sl (v :: l)) = some false:=rfl
theorem zbv7 (i o n s:Nat):kj .s (.slm i o n s) = some false:=rfl
theorem zbxt :kj .m (.nilM) = some true:=rfl
theorem zbxs :kj .f (.nilF) = some true:=rfl
theorem zbxr (f:FuncId) (p q:List TV):kj .f (.func f p q) = some false:=rfl
theorem zb61 (op:UnOp) (x:Operand):tG Γ dr (.un op x) m d K fr tk τ = pK (tun op (tO fr x)) d K fr tk τ:=(fe d K fr tk τ (tP (.un op x) fr τ)).trans (by rfl)
def cnv (k:IntKind):TV → Option TV | .int _ n => some (.int k (k.wrap n)) | _ => none
theorem zbf9 (k:IntKind) (x:Operand):tG Γ dr (.conv k x) m d K fr tk τ = pK (cnv k (tO fr x)) d K fr tk τ:=(fe d K fr tk τ (tP (.conv k x) fr τ)).trans (by unfold cnv; rfl)
theorem zbag (k j:IntKind) (n:Int):cnv k (.int j n) = some (.int k (k.wrap n)):=rfl
def zbq4:TV → Option TV | .str s => some (.str s) | _ => none
theorem zbbq (x:Operand):tG Γ dr (.convS x) m d K fr tk τ = pK (zbq4 (tO fr x)) d K fr tk τ:=(fe d K fr tk τ (tP (.convS x) fr τ)).trans (by unfold zbq4; rfl)
theorem zb10 (s:ByteArray):zbq4 (.str s) = some (.str s):=rfl
def fad (off:Nat):TV → Option TV | .ptr id o => some (.ptr id (o + off)) | .rptr cs o => some (.rptr cs (o + off)) | _ => none
theorem zbww (off:Nat) (x:Operand):tG Γ dr (.fieldAddr off x) 0 d K fr tk τ = pK (fad off (tO fr x)) d K fr tk τ:=(fe d K fr tk τ (tP (.fieldAddr off x) fr τ)).trans (by unfold fad; rfl)
def lfO (b:Option Ob) (id o off:Nat) (d:Option Nat) (K:ak) (fr:TF) (tk:TK) (τ:TH):Prop:=match b with
 | some b => (τ.lock ≤ id ∧ b.cs ≠ []) ∧ K (dh (zbb1 id τ.next fr) d (.ptr τ.next (o + off))) tk ((τ.put id ⟨b.t,[]⟩).push b)
 | none => False
def lfK (off:Nat) (v:TV) (d:Option Nat) (K:ak) (fr:TF) (tk:TK) (τ:TH):Prop:=match v with | .ptr id o => lfO (τ.at id) id o off d K fr tk τ | _ => False
theorem za9i (off id o:Nat):lfK off (.ptr id o) d K fr tk τ = lfO (τ.at id) id o off d K fr tk τ:=rfl
theorem zb2o (id o off:Nat) (t:TypeId) (cs:List TV):lfO (some ⟨t,cs⟩) id o off d K fr tk τ = ((τ.lock ≤ id ∧ cs ≠ []) ∧ K (dh (zbb1 id τ.next fr) d (.ptr τ.next (o + off))) tk ((τ.put id ⟨t,[]⟩).push ⟨t,cs⟩)):=rfl
theorem zb4c (i n:Nat):zbb1 i n [] = []:=rfl
theorem zbti (i n k:Nat) (v:TV) (l:TF):zbb1 i n ((k,v) :: l) = (k,ren i n v) :: zbb1 i n l:=rfl
theorem zaz8 (i n j o:Nat):ren i n (.ptr j o) = if j = i then .ptr n o else .ptr j o:=rfl
theorem zbtj (i n:Nat) :ren i n (TV.undef ) = TV.undef :=rfl
theorem zb4d (i n:Nat) (b:Bool):ren i n (TV.bool b) = TV.bool b:=rfl
theorem za0j (i n:Nat) (k:IntKind) (x:Int):ren i n (TV.int k x) = TV.int k x:=rfl
theorem zayg (i n:Nat) (s:ByteArray):ren i n (TV.str s) = TV.str s:=rfl
theorem zb4i (i n:Nat) :ren i n (TV.nilP ) = TV.nilP :=rfl
theorem zb4j (i n:Nat) (c:List TV) (o:Nat):ren i n (TV.rptr c o) = TV.rptr c o:=rfl
theorem zayw (i n:Nat) :ren i n (TV.slz ) = TV.slz :=rfl
theorem zbep (i n:Nat) (l:List TV):ren i n (TV.sl l) = TV.sl l:=rfl
theorem zaz7 (i n:Nat) (k:Nat) (l:List TV):ren i n (TV.sla k l) = TV.sla k l:=rfl
theorem zaz6 (i n:Nat) (k:Nat) (t:TypeId):ren i n (TV.slb k t) = TV.slb k t:=rfl
theorem zayx (i n:Nat) (t:TypeId) (l:List TV):ren i n (TV.slo t l) = TV.slo t l:=rfl
theorem zayy (i n:Nat) (j o n0 s:Nat):ren i n (TV.slm j o n0 s) = TV.slm j o n0 s:=rfl
theorem zb4h (i n:Nat) :ren i n (TV.nilM ) = TV.nilM :=rfl
theorem zb4f (i n:Nat) :ren i n (TV.nilF ) = TV.nilF :=rfl
theorem zb4e (i n:Nat) (f:FuncId) (p q:List TV):ren i n (TV.func f p q) = TV.func f p q:=rfl
theorem zb4g (i n:Nat) :ren i n (TV.nilI ) = TV.nilI :=rfl
theorem za0l (i n:Nat) (cs:List TV):ren i n (TV.agg cs) = TV.agg cs:=rfl
theorem zayf (i n:Nat) (cs:List TV):ren i n (TV.tup cs) = TV.tup cs:=rfl
theorem za99 (off id o:Nat):fad off (.ptr id o) = some (.ptr id (o + off)):=rfl
theorem zb17 (off:Nat) (cs:List TV) (o:Nat):fad off (.rptr cs o) = some (.rptr cs (o + off)):=rfl
def fl1 (off:Nat):TV → Option TV | .agg cs => cs[off]? | _ => none
theorem zb1i (off:Nat) (x:Operand):tG Γ dr (.field1 off x) m d K fr tk τ = pK (fl1 off (tO fr x)) d K fr tk τ:=(fe d K fr tk τ (tP (.field1 off x) fr τ)).trans (by unfold fl1; rfl)
theorem za98 (off:Nat) (cs:List TV):fl1 off (.agg cs) = cs[off]?:=rfl
def flN (off n:Nat):TV → Option TV | .agg cs => if off + n ≤ cs.length then some (.agg ((cs.drop off).take n)) else none | _ => none
theorem zb1j (off n:Nat) (x:Operand):tG Γ dr (.fieldN off n x) m d K fr tk τ = pK (flN off n (tO fr x)) d K fr tk τ:=(fe d K fr tk τ (tP (.fieldN off n x) fr τ)).trans (by unfold flN; rfl)
theorem za97 (off n:Nat) (cs:List TV):flN off n (.agg cs) = if off + n ≤ cs.length then some (.agg ((cs.drop off).take n)) else none:=rfl
def ixP (len sz:Nat) (x i:TV):Option TV:=match x,i with
 | .ptr id o,.int _ n => if 0 ≤ n ∧ n < len then some (.ptr id (o + n.toNat * sz)) else none
 | .rptr cs o,.int _ n => if 0 ≤ n ∧ n < len then some (.rptr cs (o + n.toNat * sz)) else none
 | _,_ => none
theorem zbuw (len sz:Nat) (x i:Operand):tG Γ dr (.indexPtr len sz x i) m d K fr tk τ = pK (ixP len sz (tO fr x) (tO fr i)) d K fr tk τ:=(fe d K fr tk τ (tP (.indexPtr len sz x i) fr τ)).trans (by unfold ixP; rfl)
theorem za9u (len sz id o:Nat) (k:IntKind) (n:Int):ixP len sz (.ptr id o) (.int k n) = if 0 ≤ n ∧ n < len then some (.ptr id (o + n.toNat * sz)) else none:=rfl
theorem zb3c (len sz:Nat) (cs:List TV) (o:Nat) (k:IntKind) (n:Int):ixP len sz (.rptr cs o) (.int k n) = if 0 ≤ n ∧ n < len then some (.rptr cs (o + n.toNat * sz)) else none:=rfl
def ixS (sz:Nat) (x i:TV):Option TV:=match i with
 | .int _ n => (match x with
  | .slm id o len s => if 0 ≤ n ∧ n < len ∧ s = sz then some (.ptr id (o + n.toNat * sz)) else none
  | v => v.list.bind fun l => if 0 ≤ n ∧ n < l.length ∧ (l.getD n.toNat .undef).cells.length = sz then some (.rptr (l.getD n.toNat .undef).cells 0) else none)
 | _ => none
theorem zb5w (sz:Nat) (x i:Operand):tG Γ dr (.indexSl sz x i) m d K fr tk τ = pK (ixS sz (tO fr x) (tO fr i)) d K fr tk τ:=(fe d K fr tk τ (tP (.indexSl sz x i) fr τ)).trans (by unfold ixS; rfl)
theorem zbfl (sz:Nat) (l:List TV) (j:IntKind) (n:Int):ixS sz (.sl l) (.int j n) = if 0 ≤ n ∧ n < l.length ∧ (l.getD n.toNat .undef).cells.length = sz then some (.rptr (l.getD n.toNat .undef).cells 0) else none:=rfl
theorem za9t (sz:Nat) (k:Nat) (l:List TV) (j:IntKind) (n:Int):ixS sz (.sla k l) (.int j n) = if 0 ≤ n ∧ n < l.length ∧ (l.getD n.toNat .undef).cells.length = sz then some (.rptr (l.getD n.toNat .undef).cells 0) else none:=rfl
theorem za9s (sz id o len s:Nat) (j:IntKind) (n:Int):ixS sz (.slm id o len s) (.int j n) = if 0 ≤ n ∧ n < len ∧ s = sz then some (.ptr id (o + n.toNat * sz)) else none:=rfl
def ixT (x i:TV):Option TV:=match x,i with | .str s,.int _ n => if 0 ≤ n ∧ n < s.size then some (.int .u8 (s.data.getD n.toNat 0).toNat) else none | _,_ => none
theorem zbux (x i:Operand):tG Γ dr (.indexStr x i) m d K fr tk τ = pK (ixT (tO fr x) (tO fr i)) d K fr tk τ:=(fe d K fr tk τ (tP (.indexStr x i) fr τ)).trans (by unfold ixT; rfl)
theorem zbk4 (s:ByteArray) (k:IntKind) (n:Int):ixT (.str s) (.int k n) = if 0 ≤ n ∧ n < s.size then some (.int .u8 (s.data.getD n.toNat 0).toNat) else none:=rfl
def slT (x:TV) (lo hi:Option TV):Option TV:=match x with | .str s => (gv s.size lo hi).map fun lh => .str (s.extract lh.1 lh.2) | _ => none
theorem zbuy (x:Operand) (lo hi:Option Operand):tG Γ dr (.sliceStr x lo hi) m d K fr tk τ = pK (slT (tO fr x) (lo.map (tO fr)) (hi.map (tO fr))) d K fr tk τ:=(fe d K fr tk τ (tP (.sliceStr x lo hi) fr τ)).trans (by unfold slT; rfl)
theorem zbko (s:ByteArray) (lo hi:Option TV):slT (.str s) lo hi = (gv s.size lo hi).map fun lh => .str (s.extract lh.1 lh.2):=rfl
def slS (sz:Nat) (x:TV) (lo hi:Option TV):Option TV:=match x with
 | .slm id o len s => if s = sz then (gv len lo hi).map fun lh => .slm id (o + lh.1 * sz) (lh.2 - lh.1) sz else none
 | .sl l => if l.all (fun e => e.cells.length == sz) && !l.isEmpty then (gv l.length lo hi).map fun lh => .sl ((l.take lh.2).drop lh.1) else none
 | .sla _ l => if l.all (fun e => e.cells.length == sz) && !l.isEmpty then (gv l.length lo hi).map fun lh => .sl ((l.take lh.2).drop lh.1) else none
 | _ => none
theorem zbru (sz:Nat) (x:Operand) (lo hi:Option Operand):tG Γ dr (.sliceSl sz x lo hi) m d K fr tk τ = pK (slS sz (tO fr x) (lo.map (tO fr)) (hi.map (tO fr))) d K fr tk τ:=(fe d K fr tk τ (tP (.sliceSl sz x lo hi) fr τ)).trans (by unfold slS; rfl)
theorem zbej (sz:Nat) (l:List TV) (lo hi:Option TV):slS sz (.sl l) lo hi = if l.all (fun e => e.cells.length == sz) && !l.isEmpty then (gv l.length lo hi).map fun lh => .sl ((l.take lh.2).drop lh.1) else none:=rfl
theorem zaup (sz k:Nat) (l:List TV) (lo hi:Option TV):slS sz (.sla k l) lo hi = if l.all (fun e => e.cells.length == sz) && !l.isEmpty then (gv l.length lo hi).map fun lh => .sl ((l.take lh.2).drop lh.1) else none:=rfl
theorem zauk (sz id o len s:Nat) (lo hi:Option TV):slS sz (.slm id o len s) lo hi = if s = sz then (gv len lo hi).map fun lh => .slm id (o + lh.1 * sz) (lh.2 - lh.1) sz else none:=rfl
theorem zbkd (n:Nat):gv n none none = some (0,n):=rfl
theorem zbkf (n:Nat) (k:IntKind) (l:Int):gv n (some (.int k l)) none = if 0 ≤ l ∧ l ≤ n then some (l.toNat,n) else none:=rfl
theorem zbke (n:Nat) (k:IntKind) (h:Int):gv n none (some (.int k h)) = if 0 ≤ h ∧ h ≤ n then some (0,h.toNat) else none:=by unfold gv tHi; by_cases c:0 ≤ h ∧ h ≤ n <;> simp [c,tLo]
theorem zbkg (n:Nat) (k j:IntKind) (l h:Int):gv n (some (.int k l)) (some (.int j h)) = if (0 ≤ h ∧ h ≤ n) ∧ 0 ≤ l ∧ l ≤ h then some (l.toNat,h.toNat) else none:=by
 unfold gv tHi
 by_cases c:0 ≤ h ∧ h ≤ n
 · have e:((h.toNat:Nat):Int) = h:=by omega
   simp only [c,and_self,if_true,Option.bind_some,tLo,e,true_and]
 · have c':¬ ((0 ≤ h ∧ h ≤ n) ∧ 0 ≤ l ∧ l ≤ h):=fun q => c q.1
   rw [if_neg c']
   simp [c]
theorem za8x {α β:Type} (c:Prop) [Decidable c] (x:α) (f:α → β):(if c then some x else none:Option α).map f = if c then some (f x) else none:=by by_cases h:c <;> simp [h]
def zbqz:TV → Option TV | .str s => some (.int .i64 s.size) | _ => none
theorem zbf7 (x:Operand):tG Γ dr (.lenS x) m d K fr tk τ = pK (zbqz (tO fr x)) d K fr tk τ:=(fe d K fr tk τ (tP (.lenS x) fr τ)).trans (by unfold zbqz; rfl)
theorem zbfk (s:ByteArray):zbqz (.str s) = some (.int .i64 s.size):=rfl
def zbix:TV → Option TV | .slm _ _ n _ => some (.int .i64 n) | v => v.list.map fun l => .int .i64 l.length
theorem zbf8 (x:Operand):tG Γ dr (.lenL x) m d K fr tk τ = pK (zbix (tO fr x)) d K fr tk τ:=(fe d K fr tk τ (tP (.lenL x) fr τ)).trans (by unfold zbix; rfl)
theorem zb2m (id o n s:Nat):zbix (.slm id o n s) = some (.int .i64 n):=rfl
theorem za9j (l:List TV):zbix (.sl l) = some (.int .i64 l.length):=rfl
theorem zb2l (k:Nat) (l:List TV):zbix (.sla k l) = some (.int .i64 l.length):=rfl
theorem zb2n:zbix .slz = some (.int .i64 0):=rfl
def zbqw (x y:TV):Option TV:=match x,y with | .int k a,.int _ b => some (.int k (if b < a then b else a)) | _,_ => none
theorem zblu (x y:Operand):tG Γ dr (.min x y) m d K fr tk τ = pK (zbqw (tO fr x) (tO fr y)) d K fr tk τ:=(fe d K fr tk τ (tP (.min x y) fr τ)).trans (by unfold zbqw; rfl)
theorem zbe7 (k j:IntKind) (a b:Int):zbqw (.int k a) (.int j b) = some (.int k (if b < a then b else a)):=rfl
def zbqy (x y:TV):Option TV:=match x,y with | .int k a,.int _ b => some (.int k (if a < b then b else a)) | _,_ => none
theorem zblv (x y:Operand):tG Γ dr (.max x y) m d K fr tk τ = pK (zbqy (tO fr x) (tO fr y)) d K fr tk τ:=(fe d K fr tk τ (tP (.max x y) fr τ)).trans (by unfold zbqy; rfl)
theorem zbe8 (k j:IntKind) (a b:Int):zbqy (.int k a) (.int j b) = some (.int k (if a < b then b else a)):=rfl
theorem zb1k (f:FuncId) (first captured:List Operand):tG Γ dr (.mkFunc (.func f) first captured) m d K fr tk τ = K (dh fr d (.func f (first.map fun x => (tO fr x).canS) (captured.map fun x => (tO fr x).canS))) tk τ:=rfl
def exT (i:Nat):TV → Option TV | .tup cs => cs[i]? | _ => none
theorem zb5v (x:Operand) (i:Nat):tG Γ dr (.extract x i) m d K fr tk τ = pK (exT i (tO fr x)) d K fr tk τ:=(fe d K fr tk τ (tP (.extract x i) fr τ)).trans (by unfold exT; rfl)
theorem zbld (i:Nat) (cs:List TV):exT i (.tup cs) = cs[i]?:=rfl
theorem zbbu (zero:List Value) (parts:List (Nat × Nat × Operand)):tG Γ dr (.build zero parts) m d K fr tk τ = pK ((zbdh (zero.map ofS) (parts.map fun p => (p.1,p.2.1,tO fr p.2.2))).map .agg) d K fr tk τ:=(fe d K fr tk τ (tP (.build zero parts) fr τ)).trans (by rfl)
theorem zbt0 (cs:List TV):zbdh cs [] = some cs:=rfl
theorem zbv5 (cs:List TV) (off size:Nat) (v:TV) (r:List (Nat × Nat × TV)):zbdh cs ((off,size,v) :: r) = if v.known = true ∧ v.cells.length = size ∧ off + size ≤ cs.length then zbdh (em cs off (v.cells.map TV.part)) r else none:=rfl
theorem zbuu (cs:List TV) (off:Nat):em cs off [] = cs:=rfl
theorem zbxz (cs:List TV) (off:Nat) (v:TV) (r:List TV):em cs off (v :: r) = em (cs.set off v) (off + 1) r:=rfl
def zbiu (τ:TH):TV → Option TV | .slm id off n s => (if s = 1 then ((j7 τ id off n).bind mo).map fun bs => .str ⟨bs.toArray⟩ else none) | v => (v.list.bind mo).map fun bs => .str ⟨bs.toArray⟩
theorem zbbk (x:Operand):tG Γ dr (.toStr x) m d K fr tk τ = pK (zbiu τ (tO fr x)) d K fr tk τ:=(fe d K fr tk τ (tP (.toStr x) fr τ)).trans (by unfold zbiu; rfl)
theorem zb5n (l:List TV):zbiu τ (.sl l) = (mo l).map fun bs => .str ⟨bs.toArray⟩:=rfl
theorem zbut (k:Nat) (l:List TV):zbiu τ (.sla k l) = (mo l).map fun bs => .str ⟨bs.toArray⟩:=rfl
theorem zb4r:zbiu τ .slz = some (.str ⟨#[]⟩):=rfl
theorem zb4q (id off n s:Nat):zbiu τ (.slm id off n s) = if s = 1 then ((j7 τ id off n).bind mo).map fun bs => .str ⟨bs.toArray⟩ else none:=rfl
def ixA (len:Nat) (x i:TV):Option TV:=match x,i with | .agg cs,.int _ n => if 0 ≤ n ∧ n < len ∧ len ≤ cs.length then cs[n.toNat]? else none | _,_ => none
theorem zbuv (len:Nat) (x i:Operand):tG Γ dr (.indexAgg len x i) m d K fr tk τ = pK (ixA len (tO fr x) (tO fr i)) d K fr tk τ:=(fe d K fr tk τ (tP (.indexAgg len x i) fr τ)).trans (by unfold ixA; rfl)
theorem zbk5 (len:Nat) (cs:List TV) (k:IntKind) (n:Int):ixA len (.agg cs) (.int k n) = if 0 ≤ n ∧ n < len ∧ len ≤ cs.length then cs[n.toNat]? else none:=rfl
def zbq0 (len sz:Nat) (x i:TV):Option TV:=match x,i with | .agg cs,.int _ n => if 0 ≤ n ∧ n < len ∧ len * sz ≤ cs.length then some (.agg ((cs.drop (n.toNat * sz)).take sz)) else none | _,_ => none
theorem zbwx (len sz:Nat) (x i:Operand):tG Γ dr (.indexAggN len sz x i) m d K fr tk τ = pK (zbq0 len sz (tO fr x) (tO fr i)) d K fr tk τ:=(fe d K fr tk τ (tP (.indexAggN len sz x i) fr τ)).trans (by unfold zbq0; rfl)
theorem zbfm (len sz:Nat) (cs:List TV) (k:IntKind) (n:Int):zbq0 len sz (.agg cs) (.int k n) = if 0 ≤ n ∧ n < len ∧ len * sz ≤ cs.length then some (.agg ((cs.drop (n.toNat * sz)).take sz)) else none:=rfl
def eqA (neg:Bool) (ks:List FK) (x y:TV):Option TV:=match x,y with | .agg p,.agg q => (zbis ks p q).map fun b => .bool (bif neg then !b else b) | _,_ => none
theorem zblw (neg:Bool) (ks:List FK) (x y:Operand):tG Γ dr (.eqF neg ks x y) m d K fr tk τ = pK (eqA neg ks (tO fr x) (tO fr y)) d K fr tk τ:=(fe d K fr tk τ (tP (.eqF neg ks x y) fr τ)).trans (by unfold eqA; rfl)
theorem zble (neg:Bool) (ks:List FK) (p q:List TV):eqA neg ks (.agg p) (.agg q) = (zbis ks p q).map fun b => .bool (bif neg then !b else b):=rfl
theorem zbly (t n:Nat) (x:Operand):tG Γ dr (.box t n x) m d K fr tk τ = (((tO fr x).cells.all TV.one = true ∧ eo τ.next ((tO fr x).cells.map TV.put) = true) ∧ K (dh fr d (.ptr τ.next 0)) tk (τ.push ⟨t,(tO fr x).cells.map TV.put⟩)):=zbqc d K fr _ _
def stK (n:Nat) (a x:TV) (d:Option Nat) (K:ak) (fr:TF) (tk:TK) (τ:TH):Prop:=match a with
 | .ptr id off => x.cells.length = n ∧ (match zbij τ id off (x.cells.map TV.put) with | some τ' => K (dh fr d (.tup [])) tk τ' | none => False)
 | _ => False
theorem zbbl (n:Nat) (y x:Operand):tG Γ dr (.store n y x) 0 d K fr tk τ = stK n (tO fr y) (tO fr x) d K fr tk τ:=by
 have e0:ky (.store n y x) 0 fr τ = (fr,τ):=rfl
 simp only [tG,e0,tOp,stK]
 cases tO fr y with
 | ptr id off =>
  by_cases h:(tO fr x).cells.length = n
  · simp only [h,if_true,true_and,show (0:Nat) = 2 ↔ False from by decide,if_false]
    cases zbij τ id off ((tO fr x).cells.map TV.put) <;> rfl
  · simp [h,opK]
 | _ => rfl
def stB (o:Option Ob) (id off:Nat) (vs:List TV) (d:Option Nat) (K:ak) (fr:TF) (tk:TK) (τ:TH):Prop:=match o with
 | some b => (τ.lock ≤ id ∧ vs ≠ [] ∧ off + vs.length ≤ b.cs.length ∧ (vs.all TV.one = true) ∧ eo (id + 1) vs = true) ∧ K (dh fr d (.tup [])) tk (τ.put id ⟨b.t,em b.cs off vs⟩)
 | none => False
theorem zat2 (n id off:Nat) (x:TV):stK n (.ptr id off) x d K fr tk τ = (x.cells.length = n ∧ stB (τ.at id) id off (x.cells.map TV.put) d K fr tk τ):=by
 simp only [stK,stB,zbij]
 cases τ.at id with
 | none => rfl
 | some b =>
  simp only [Option.bind_some]
  split
  · rename_i τ' h
    split at h
    · rename_i hc; injection h with h; subst h; simp only [hc,ne_eq,not_false_eq_true,and_self,true_and]
    · cases h
  · rename_i h
    split at h
    · cases h
    · rename_i hc; simp only [hc,false_and]
theorem zb4p (t:TypeId) (cs:List TV) (id off:Nat) (vs:List TV):stB (some ⟨t,cs⟩) id off vs d K fr tk τ = ((τ.lock ≤ id ∧ vs ≠ [] ∧ off + vs.length ≤ cs.length ∧ (vs.all TV.one = true) ∧ eo (id + 1) vs = true) ∧ K (dh fr d (.tup [])) tk (τ.put id ⟨t,em cs off vs⟩)):=rfl
def tkB (o:Option Ob) (id off:Nat) (d:Option Nat) (K:ak) (fr:TF) (tk:TK) (τ:TH):Prop:=match o with
 | some b => (match b.cs[off]? with | some (.slo t l) => τ.lock ≤ id ∧ K (dh fr d (.sla tk.length l)) (tk ++ [some (l.length,t)]) (τ.put id ⟨b.t,b.cs.set off (.sl l)⟩) | some .slz => τ.lock ≤ id ∧ K (dh fr d (.sla tk.length [])) (tk ++ [some (0,0)]) (τ.put id ⟨b.t,b.cs.set off (.sl [])⟩) | _ => False)
 | none => False
def tkK (x:TV) (d:Option Nat) (K:ak) (fr:TF) (tk:TK) (τ:TH):Prop:=match x with | .ptr id off => tkB (τ.at id) id off d K fr tk τ | _ => False
def tkC (t:TypeId) (cs:List TV) (id off:Nat) (v:Option TV) (d:Option Nat) (K:ak) (fr:TF) (tk:TK) (τ:TH):Prop:=match v with | some (.slo u l) => τ.lock ≤ id ∧ K (dh fr d (.sla tk.length l)) (tk ++ [some (l.length,u)]) (τ.put id ⟨t,cs.set off (.sl l)⟩) | some .slz => τ.lock ≤ id ∧ K (dh fr d (.sla tk.length [])) (tk ++ [some (0,0)]) (τ.put id ⟨t,cs.set off (.sl [])⟩) | _ => False
theorem zbbn (x:Operand):tG Γ dr (.load1 x) 2 d K fr tk τ = tkK (tO fr x) d K fr tk τ:=by
 simp only [tG,tOp,tkK,if_true]
 cases tO fr x with
 | ptr id off =>
  simp only [tkB]
  cases τ.at id with
  | none => rfl
  | some b =>
   simp only [Option.bind_some]
   cases hq:b.cs[off]? with
   | none => rfl
   | some v =>
    cases v with
    | slo t l => by_cases h:τ.lock ≤ id <;> simp [h,opK]
    | slz => by_cases h:τ.lock ≤ id <;> simp [h,opK]
    | _ => rfl
 | _ => rfl
theorem zaee (id off:Nat):tkK (.ptr id off) d K fr tk τ = tkB (τ.at id) id off d K fr tk τ:=rfl
theorem zb5c (t:TypeId) (cs:List TV) (id off:Nat):tkB (some ⟨t,cs⟩) id off d K fr tk τ = tkC t cs id off cs[off]? d K fr tk τ:=rfl
theorem zb5q (t:TypeId) (cs:List TV) (id off:Nat):tkC t cs id off (some .slz) d K fr tk τ = (τ.lock ≤ id ∧ K (dh fr d (.sla tk.length [])) (tk ++ [some (0,0)]) (τ.put id ⟨t,cs.set off (.sl [])⟩)):=rfl
theorem zb5p (t u:TypeId) (cs l:List TV) (id off:Nat):tkC t cs id off (some (.slo u l)) d K fr tk τ = (τ.lock ≤ id ∧ K (dh fr d (.sla tk.length l)) (tk ++ [some (l.length,u)]) (τ.put id ⟨t,cs.set off (.sl l)⟩)):=rfl
def s2K (n:Nat) (a x:TV) (d:Option Nat) (K:ak) (fr:TF) (tk:TK) (τ:TH):Prop:=match a,x with
 | .ptr id off,.sla tok l => (match tk[tok]? with
  | some (some (k,t)) => (k = l.length ∧ n = 1) ∧ stB (τ.at id) id off [.slo t l] d K fr (tk.set tok none) τ
  | _ => False)
 | _,_ => False
def s2T (o:Option (Option (Nat × TypeId))) (n id off tok:Nat) (l:List TV) (d:Option Nat) (K:ak) (fr:TF) (tk:TK) (τ:TH):Prop:=match o with
 | some (some (k,t)) => (k = l.length ∧ n = 1) ∧ stB (τ.at id) id off [.slo t l] d K fr (tk.set tok none) τ
 | _ => False
theorem zb0v (n:Nat) (y x:Operand):tG Γ dr (.store n y x) 2 d K fr tk τ = s2K n (tO fr y) (tO fr x) d K fr tk τ:=by
 have e0:ky (.store n y x) 2 fr τ = (fr,τ):=rfl
 simp only [tG,e0,tOp,s2K,if_true]
 cases tO fr y with
 | ptr id off =>
  cases tO fr x with
  | sla tok l =>
   simp only
   cases tk[tok]? with
   | none => rfl
   | some o =>
    cases o with
    | none => rfl
    | some p =>
     obtain ⟨k,t⟩:=p
     by_cases h:k = l.length ∧ n = 1
     · simp only [h,and_self,if_true,true_and,zbij,stB]
       cases τ.at id with
       | none => rfl
       | some b =>
        simp only [Option.bind_some]
        by_cases hc:τ.lock ≤ id ∧ [TV.slo t l] ≠ [] ∧ off + [TV.slo t l].length ≤ b.cs.length ∧ ([TV.slo t l].all TV.one = true) ∧ eo (id + 1) [TV.slo t l] = true
        · rw [if_pos hc]; simp only [hc,ne_eq,not_false_eq_true,and_self,true_and]; rfl
        · rw [if_neg hc]; simp only [hc,false_and]; rfl
     · simp only [h,if_false,false_and]; rfl
  | _ => rfl
 | _ => rfl
theorem zau5 (n id off tok:Nat) (l:List TV):s2K n (.ptr id off) (.sla tok l) d K fr tk τ = s2T (tk[tok]?) n id off tok l d K fr tk τ:=rfl
theorem zb4l (n id off tok k t:Nat) (l:List TV):s2T (some (some (k,t))) n id off tok l d K fr tk τ = ((k = l.length ∧ n = 1) ∧ stB (τ.at id) id off [.slo t l] d K fr (tk.set tok none) τ):=rfl
def bsO (m:Nat) (t sz:Nat) (o:Option (List TV)) (d:Option Nat) (K:ak) (fr:TF) (tk:TK) (τ:TH):Prop:=match o with | some l => (if m = 1 then K (dh fr d (.slm τ.next 0 l.length sz)) tk (τ.push ⟨t,l.flatMap TV.cells⟩) else if m = 2 then (l ≠ [] ∧ l.length ≤ maxLen) ∧ K (dh fr d (.sla tk.length l)) (tk ++ [some (l.length,t)]) τ else K (dh fr d (.sl l)) tk τ) | none => False
theorem zb5u (t sz len:Nat) (zeros:List Value) (parts:List (Nat × Nat × Operand)):tG Γ dr (.buildSl t sz len zeros parts) m d K fr tk τ = ((parts.length = len ∧ sz ≠ 0 ∧ zeros.length = len * sz) ∧ bsO m t sz (y0 sz 0 (parts.map fun p => (p.1,p.2.1,tO fr p.2.2))) d K fr tk τ):=by
 simp only [tG,tOp,bsO]
 by_cases h:parts.length = len ∧ sz ≠ 0 ∧ zeros.length = len * sz
 · rw [if_pos h]
   cases y0 sz 0 (parts.map fun p => (p.1,p.2.1,tO fr p.2.2)) with
   | none => exact propext ⟨False.elim,fun q => q.2⟩
   | some l =>
    simp only [Option.bind_some,and_iff_right h]
    by_cases h1:m = 1
    · rw [if_pos h1,if_pos h1]; rfl
    · rw [if_neg h1,if_neg h1]
      by_cases h2:m = 2
      · rw [if_pos h2,if_pos h2]
        by_cases h3:l ≠ [] ∧ l.length ≤ maxLen
        · rw [if_pos h3]; exact propext ⟨fun q => ⟨h3,q⟩,fun q => q.2⟩
        · rw [if_neg h3]; exact propext ⟨False.elim,fun q => h3 q.1⟩
      · rw [if_neg h2,if_neg h2]; rfl
 · rw [if_neg h]; simp only [h,false_and]; rfl
theorem zbll (t sz:Nat) (l:List TV):bsO 0 t sz (some l) d K fr tk τ = K (dh fr d (.sl l)) tk τ:=rfl
theorem zblk (t sz:Nat) (l:List TV):bsO 1 t sz (some l) d K fr tk τ = K (dh fr d (.slm τ.next 0 l.length sz)) tk (τ.push ⟨t,l.flatMap TV.cells⟩):=rfl
theorem zblj (t sz:Nat) (l:List TV):bsO 2 t sz (some l) d K fr tk τ = ((l ≠ [] ∧ l.length ≤ maxLen) ∧ K (dh fr d (.sla tk.length l)) (tk ++ [some (l.length,t)]) τ):=rfl
theorem zbv4 (sz i:Nat):y0 sz i [] = some []:=rfl
theorem zbxp (sz i off n:Nat) (v:TV) (r:List (Nat × Nat × TV)):y0 sz i ((off,n,v) :: r) = if off = i * sz ∧ n = sz ∧ v.canA.cells.length = sz ∧ v.canA.pure = true then (y0 sz (i + 1) r).map (v.canA :: ·) else none:=rfl
def msK (mu:Bool) (t bytes:Nat) (zero:List Value) (l c:TV) (d:Option Nat) (K:ak) (fr:TF) (tk:TK) (τ:TH):Prop:=match l,c with
 | .int _ n,.int _ k => (0 ≤ n ∧ n ≤ k ∧ k * bytes ≤ 140737488355328 ∧ k ≤ 9223372036854775807 ∧ zero.length ≠ 0 ∧ (zero.all fun z => (ofS z).canS.pureS) = true) ∧
  (bif mu then K (dh fr d (.slm τ.next 0 n.toNat zero.length)) tk (τ.push ⟨t,((List.replicate n.toNat (zero.map fun z => (ofS z).put)).flatten)⟩) else K (dh fr d (.sl (List.replicate n.toNat (zbac (zero.map fun z => (ofS z).canS))))) tk τ)
 | _,_ => False
theorem zb5x (t bytes:Nat) (zero:List Value) (l c:Operand):tG Γ dr (.makeSl t bytes zero l c) 0 d K fr tk τ = msK false t bytes zero (tO fr l) (tO fr c) d K fr tk τ:=by
 simp only [tG,tOp,msK]
 cases tO fr l with
 | int k1 n =>
  cases tO fr c with
  | int k2 k =>
   simp only
   by_cases h:0 ≤ n ∧ n ≤ k ∧ k * bytes ≤ 140737488355328 ∧ k ≤ 9223372036854775807 ∧ zero.length ≠ 0 ∧ (zero.all fun z => (ofS z).canS.pureS) = true
   · rw [if_pos h]; simp only [h,ne_eq,not_false_eq_true,and_self,true_and]; rfl
   · rw [if_neg h]; simp only [h,false_and]; rfl
  | _ => rfl
 | _ => rfl
theorem zb5y (t bytes:Nat) (zero:List Value) (l c:Operand):tG Γ dr (.makeSl t bytes zero l c) 1 d K fr tk τ = msK true t bytes zero (tO fr l) (tO fr c) d K fr tk τ:=by
 simp only [tG,tOp,msK]
 cases tO fr l with
 | int k1 n =>
  cases tO fr c with
  | int k2 k =>
   simp only
   by_cases h:0 ≤ n ∧ n ≤ k ∧ k * bytes ≤ 140737488355328 ∧ k ≤ 9223372036854775807 ∧ zero.length ≠ 0 ∧ (zero.all fun z => (ofS z).canS.pureS) = true
   · rw [if_pos h]; simp only [h,ne_eq,not_false_eq_true,and_self,true_and]; rfl
   · rw [if_neg h]; simp only [h,false_and]; rfl
  | _ => rfl
 | _ => rfl
def msA (t bytes:Nat) (zero:List Value) (l c:TV) (d:Option Nat) (K:ak) (fr:TF) (tk:TK) (τ:TH):Prop:=match l,c with
 | .int _ n,.int _ k => (0 ≤ n ∧ n ≤ k ∧ k * bytes ≤ 140737488355328 ∧ k ≤ 9223372036854775807 ∧ zero.length ≠ 0 ∧ (zero.all fun z => (ofS z).canS.pureS) = true) ∧ (n = 0 ∧ zero.length = 1) ∧ K (dh fr d (.slb tk.length t)) (tk ++ [some (0,t)]) τ
 | _,_ => False
theorem zb5z (t bytes:Nat) (zero:List Value) (l c:Operand):tG Γ dr (.makeSl t bytes zero l c) 2 d K fr tk τ = msA t bytes zero (tO fr l) (tO fr c) d K fr tk τ:=by
 simp only [tG,tOp,msA]
 cases tO fr l with
 | int k1 n =>
  cases tO fr c with
  | int k2 k =>
   simp only
   by_cases h:0 ≤ n ∧ n ≤ k ∧ k * bytes ≤ 140737488355328 ∧ k ≤ 9223372036854775807 ∧ zero.length ≠ 0 ∧ (zero.all fun z => (ofS z).canS.pureS) = true
   · rw [if_pos h,if_neg (by decide),if_pos trivial]
     by_cases h2:n = 0 ∧ zero.length = 1
     · rw [if_pos h2]; exact propext ⟨fun q => ⟨h,h2,q⟩,fun q => q.2.2⟩
     · rw [if_neg h2]; exact propext ⟨False.elim,fun q => h2 q.2.1⟩
   · rw [if_neg h]; simp only [h,false_and]; rfl
  | _ => rfl
 | _ => rfl
theorem zbky (t bytes:Nat) (zero:List Value) (j1 j2:IntKind) (n k:Int):msA t bytes zero (.int j1 n) (.int j2 k) d K fr tk τ = ((0 ≤ n ∧ n ≤ k ∧ k * bytes ≤ 140737488355328 ∧ k ≤ 9223372036854775807 ∧ zero.length ≠ 0 ∧ (zero.all fun z => (ofS z).canS.pureS) = true) ∧ (n = 0 ∧ zero.length = 1) ∧ K (dh fr d (.slb tk.length t)) (tk ++ [some (0,t)]) τ):=rfl
theorem zbkx (mu:Bool) (t bytes:Nat) (zero:List Value) (j1 j2:IntKind) (n k:Int):msK mu t bytes zero (.int j1 n) (.int j2 k) d K fr tk τ = ((0 ≤ n ∧ n ≤ k ∧ k * bytes ≤ 140737488355328 ∧ k ≤ 9223372036854775807 ∧ zero.length ≠ 0 ∧ (zero.all fun z => (ofS z).canS.pureS) = true) ∧ (bif mu then K (dh fr d (.slm τ.next 0 n.toNat zero.length)) tk (τ.push ⟨t,((List.replicate n.toNat (zero.map fun z => (ofS z).put)).flatten)⟩) else K (dh fr d (.sl (List.replicate n.toNat (zbac (zero.map fun z => (ofS z).canS))))) tk τ)):=rfl
def apK (t sz bytes:Nat) (s:TV) (o:Option (List TV)) (d:Option Nat) (K:ak) (fr:TF) (tk:TK) (τ:TH):Prop:=match o with
 | some xs => (match lr t sz bytes s xs tk with | some (v,tk') => K (dh fr d v) tk' τ | none => False)
 | none => False
def apT (o:Option (Option (Nat × TypeId))) (t sz bytes tok:Nat) (l xs:List TV) (d:Option Nat) (K:ak) (fr:TF) (tk:TK) (τ:TH):Prop:=match o with
 | some (some (n,t')) => ((xs.all (fun e => e.cells.length == sz && e.pure) = true ∧ xs.length * bytes ≤ 140737488355328 ∧ xs.length ≤ maxLen) ∧ n = l.length ∧ (n = 0 ∨ t' = t) ∧ (l.all (fun e => e.cells.length == sz) = true) ∧ (l.length + xs.length) * bytes ≤ 140737488355328 ∧ l.length + xs.length ≤ maxLen) ∧
  K (dh fr d (.sla tok (l ++ xs))) (tk.set tok (some (l.length + xs.length,t))) τ
 | _ => False
theorem zb1g (t sz bytes:Nat) (s x:Operand):tG Γ dr (.append t sz bytes s x) 0 d K fr tk τ = (sz ≠ 0 ∧ apK t sz bytes (tO fr s) (tO fr x).list d K fr tk τ):=by
 simp only [tG,tOp,apK]
 by_cases h:sz = 0
 · simp [h,opK]
 · simp only [h,if_false,ne_eq,not_false_eq_true,true_and]
   cases (tO fr x).list with
   | none => rfl
   | some xs =>
    simp only [Option.bind_some,show (0:Nat) = 1 ↔ False from by decide,if_false]
    cases lr t sz bytes (tO fr s) xs tk <;> rfl
def amK (t sz bytes:Nat) (s:TV) (o:Option (List TV)) (d:Option Nat) (K:ak) (fr:TF) (tk:TK) (τ:TH):Prop:=match o with
 | some xs => (match lq t sz bytes s xs τ with | some (v,τ') => K (dh fr d v) tk τ' | none => False)
 | none => False
def amO (b:Option Ob) (t sz bytes id n:Nat) (xs:List TV) (d:Option Nat) (K:ak) (fr:TF) (tk:TK) (τ:TH):Prop:=match b with
 | some b => (b.t = t ∧ b.cs.length = n * sz ∧ n ≠ 0 ∧ τ.lock ≤ id ∧ (n + xs.length) * bytes ≤ 140737488355328 ∧ n + xs.length ≤ maxLen) ∧ K (dh fr d (.slm τ.next 0 (n + xs.length) sz)) tk ((τ.put id ⟨t,[]⟩).push ⟨t,b.cs ++ xs.flatMap TV.cells⟩)
 | none => False
theorem zb5r (t sz bytes:Nat) (s x:Operand):tG Γ dr (.append t sz bytes s x) 1 d K fr tk τ = (sz ≠ 0 ∧ amK t sz bytes (tO fr s) (tO fr x).list d K fr tk τ):=by
 simp only [tG,tOp,amK]
 by_cases h:sz = 0
 · simp [h,opK]
 · simp only [h,if_false,ne_eq,not_false_eq_true,true_and]
   cases (tO fr x).list with
   | none => rfl
   | some xs =>
    simp only [Option.bind_some,if_true]
    cases lq t sz bytes (tO fr s) xs τ <;> rfl
theorem zba5 (t sz bytes:Nat) (xs:List TV):amK t sz bytes .slz (some xs) d K fr tk τ = ((xs ≠ [] ∧ xs.all (fun e => e.cells.length == sz && e.pure) = true) ∧ (xs.length * bytes ≤ 140737488355328 ∧ xs.length ≤ maxLen) ∧ K (dh fr d (.slm τ.next 0 xs.length sz)) tk (τ.push ⟨t,xs.flatMap TV.cells⟩)):=by
 simp only [amK,lq]
 by_cases h:xs ≠ [] ∧ xs.all (fun e => e.cells.length == sz && e.pure) = true
 · rw [if_pos h]
   by_cases h2:xs.length * bytes ≤ 140737488355328 ∧ xs.length ≤ maxLen
   · rw [if_pos h2]; exact propext ⟨fun q => ⟨h,h2,q⟩,fun q => q.2.2⟩
   · rw [if_neg h2]; exact propext ⟨False.elim,fun q => h2 q.2.1⟩
 · rw [if_neg h]; exact propext ⟨False.elim,fun q => h q.1⟩
theorem zba6 (t sz bytes id n:Nat) (xs:List TV):amK t sz bytes (.slm id 0 n sz) (some xs) d K fr tk τ = ((xs ≠ [] ∧ xs.all (fun e => e.cells.length == sz && e.pure) = true) ∧ amO (τ.at id) t sz bytes id n xs d K fr tk τ):=by
 simp only [amK,lq,amO]
 by_cases h:xs ≠ [] ∧ xs.all (fun e => e.cells.length == sz && e.pure) = true
 · rw [if_pos h]
   cases τ.at id with
   | none => exact propext ⟨False.elim,fun q => q.2⟩
   | some b =>
    simp only [Option.bind_some,true_and]
    by_cases h2:b.t = t ∧ b.cs.length = n * sz ∧ n ≠ 0 ∧ τ.lock ≤ id ∧ (n + xs.length) * bytes ≤ 140737488355328 ∧ n + xs.length ≤ maxLen
    · rw [if_pos h2]; exact propext ⟨fun q => ⟨h,h2,q⟩,fun q => q.2.2⟩
    · rw [if_neg h2]; exact propext ⟨False.elim,fun q => h2 q.2.1⟩
 · rw [if_neg h]; exact propext ⟨False.elim,fun q => h q.1⟩
theorem zb0x (t u sz bytes id n:Nat) (cs xs:List TV):amO (some ⟨u,cs⟩) t sz bytes id n xs d K fr tk τ = ((u = t ∧ cs.length = n * sz ∧ n ≠ 0 ∧ τ.lock ≤ id ∧ (n + xs.length) * bytes ≤ 140737488355328 ∧ n + xs.length ≤ maxLen) ∧ K (dh fr d (.slm τ.next 0 (n + xs.length) sz)) tk ((τ.put id ⟨t,[]⟩).push ⟨t,cs ++ xs.flatMap TV.cells⟩)):=rfl
def atK (t sz bytes:Nat) (s:TV) (o:Option (List TV)) (d:Option Nat) (K:ak) (fr:TF) (tk:TK) (τ:TH):Prop:=match o with
 | some xs => (match zamu t sz bytes s xs τ with | some (v,τ') => K (dh fr d v) tk τ' | none => False)
 | none => False
def atO (b:Option Ob) (t sz bytes id n:Nat) (xs:List TV) (d:Option Nat) (K:ak) (fr:TF) (tk:TK) (τ:TH):Prop:=match b with
 | some b => (b.t = t ∧ n * sz ≤ b.cs.length ∧ b.cs ≠ [] ∧ τ.lock ≤ id ∧ (n + xs.length) * bytes ≤ 140737488355328 ∧ n + xs.length ≤ maxLen) ∧ K (dh fr d (.slm τ.next 0 (n + xs.length) sz)) tk ((τ.put id ⟨t,[]⟩).push ⟨t,b.cs.take (n * sz) ++ xs.flatMap TV.cells⟩)
 | none => False
theorem zb5s (t sz bytes:Nat) (s x:Operand):tG Γ dr (.append t sz bytes s x) 4 d K fr tk τ = (sz ≠ 0 ∧ atK t sz bytes (tO fr s) (tO fr x).list d K fr tk τ):=by
 simp only [tG,tOp,atK]
 by_cases h:sz = 0
 · simp [h,opK]
 · simp only [h,if_false,ne_eq,not_false_eq_true,true_and]
   cases (tO fr x).list with
   | none => rfl
   | some xs =>
    simp only [Option.bind_some,if_true]
    cases zamu t sz bytes (tO fr s) xs τ <;> rfl
theorem zbay (t sz bytes id n:Nat) (xs:List TV):atK t sz bytes (.slm id 0 n sz) (some xs) d K fr tk τ = ((xs ≠ [] ∧ xs.all (fun e => e.cells.length == sz && e.pure) = true) ∧ atO (τ.at id) t sz bytes id n xs d K fr tk τ):=by
 simp only [atK,zamu,atO]
 by_cases h:xs ≠ [] ∧ xs.all (fun e => e.cells.length == sz && e.pure) = true
 · rw [if_pos h]
   cases τ.at id with
   | none => exact propext ⟨False.elim,fun q => q.2⟩
   | some b =>
    simp only [Option.bind_some,true_and]
    by_cases h2:b.t = t ∧ n * sz ≤ b.cs.length ∧ b.cs ≠ [] ∧ τ.lock ≤ id ∧ (n + xs.length) * bytes ≤ 140737488355328 ∧ n + xs.length ≤ maxLen
    · rw [if_pos h2]; exact propext ⟨fun q => ⟨h,h2,q⟩,fun q => q.2.2⟩
    · rw [if_neg h2]; exact propext ⟨False.elim,fun q => h2 q.2.1⟩
 · rw [if_neg h]; exact propext ⟨False.elim,fun q => h q.1⟩
theorem zb03 (t u sz bytes id n:Nat) (cs xs:List TV):atO (some ⟨u,cs⟩) t sz bytes id n xs d K fr tk τ = ((u = t ∧ n * sz ≤ cs.length ∧ cs ≠ [] ∧ τ.lock ≤ id ∧ (n + xs.length) * bytes ≤ 140737488355328 ∧ n + xs.length ≤ maxLen) ∧ K (dh fr d (.slm τ.next 0 (n + xs.length) sz)) tk ((τ.put id ⟨t,[]⟩).push ⟨t,cs.take (n * sz) ++ xs.flatMap TV.cells⟩)):=rfl
theorem zba2 (t sz bytes:Nat) (xs:List TV):apK t sz bytes .slz (some xs) d K fr tk τ = ((xs.all (fun e => e.cells.length == sz && e.pure) = true ∧ xs.length * bytes ≤ 140737488355328 ∧ xs.length ≤ maxLen) ∧ K (dh fr d (.sla tk.length xs)) (tk ++ [some (xs.length,t)]) τ):=by
 simp only [apK,lr]
 by_cases h:xs.all (fun e => e.cells.length == sz && e.pure) = true ∧ xs.length * bytes ≤ 140737488355328 ∧ xs.length ≤ maxLen
 · rw [if_pos h]; simp only [h,and_self,true_and]
 · rw [if_neg h]; simp only [h,false_and]
theorem zba4 (t sz bytes tok:Nat) (l xs:List TV):apK t sz bytes (.sla tok l) (some xs) d K fr tk τ = apT (tk[tok]?) t sz bytes tok l xs d K fr tk τ:=by
 simp only [apK,lr,apT]
 by_cases h:xs.all (fun e => e.cells.length == sz && e.pure) = true ∧ xs.length * bytes ≤ 140737488355328 ∧ xs.length ≤ maxLen
 · rw [if_pos h]
   cases tk[tok]? with
   | none => rfl
   | some o =>
    cases o with
    | none => rfl
    | some p =>
     obtain ⟨n,t'⟩:=p
     simp only
     by_cases h2:n = l.length ∧ (n = 0 ∨ t' = t) ∧ (l.all (fun e => e.cells.length == sz) = true) ∧ (l.length + xs.length) * bytes ≤ 140737488355328 ∧ l.length + xs.length ≤ maxLen
     · rw [if_pos h2]; exact propext ⟨fun q => ⟨⟨h,h2⟩,q⟩,fun q => q.2⟩
     · rw [if_neg h2]; simp only [h2,and_false,false_and]
 · rw [if_neg h]
   cases tk[tok]? with
   | none => rfl
   | some o =>
    cases o with
    | none => rfl
    | some p => simp only [h,false_and]
theorem zb0z (n t' t sz bytes tok:Nat) (l xs:List TV):apT (some (some (n,t'))) t sz bytes tok l xs d K fr tk τ = (((xs.all (fun e => e.cells.length == sz && e.pure) = true ∧ xs.length * bytes ≤ 140737488355328 ∧ xs.length ≤ maxLen) ∧ n = l.length ∧ (n = 0 ∨ t' = t) ∧ (l.all (fun e => e.cells.length == sz) = true) ∧ (l.length + xs.length) * bytes ≤ 140737488355328 ∧ l.length + xs.length ≤ maxLen) ∧ K (dh fr d (.sla tok (l ++ xs))) (tk.set tok (some (l.length + xs.length,t))) τ):=rfl
def apB (o:Option (Option (Nat × TypeId))) (t sz bytes tok t0:Nat) (xs:List TV) (d:Option Nat) (K:ak) (fr:TF) (tk:TK) (τ:TH):Prop:=match o with
 | some (some (n,t')) => ((xs.all (fun e => e.cells.length == sz && e.pure) = true ∧ xs.length * bytes ≤ 140737488355328 ∧ xs.length ≤ maxLen) ∧ n = 0 ∧ t0 = t ∧ sz = 1 ∧ xs ≠ []) ∧
  K (dh fr d (.sla tok xs)) (tk.set tok (some (xs.length,t))) τ
 | _ => False
theorem zba3 (t sz bytes tok t0:Nat) (xs:List TV):apK t sz bytes (.slb tok t0) (some xs) d K fr tk τ = apB (tk[tok]?) t sz bytes tok t0 xs d K fr tk τ:=by
 simp only [apK,lr,apB]
 by_cases h:xs.all (fun e => e.cells.length == sz && e.pure) = true ∧ xs.length * bytes ≤ 140737488355328 ∧ xs.length ≤ maxLen
 · rw [if_pos h]
   cases tk[tok]? with
   | none => rfl
   | some o =>
    cases o with
    | none => rfl
    | some p =>
     obtain ⟨n,t'⟩:=p
     simp only
     by_cases h2:n = 0 ∧ t0 = t ∧ sz = 1 ∧ xs ≠ []
     · rw [if_pos h2]; exact propext ⟨fun q => ⟨⟨h,h2⟩,q⟩,fun q => q.2⟩
     · rw [if_neg h2]; simp only [h2,and_false,false_and]
 · rw [if_neg h]
   cases tk[tok]? with
   | none => rfl
   | some o =>
    cases o with
    | none => rfl
    | some p => simp only [h,false_and]
theorem zb0y (n t' t sz bytes tok t0:Nat) (xs:List TV):apB (some (some (n,t'))) t sz bytes tok t0 xs d K fr tk τ = (((xs.all (fun e => e.cells.length == sz && e.pure) = true ∧ xs.length * bytes ≤ 140737488355328 ∧ xs.length ≤ maxLen) ∧ n = 0 ∧ t0 = t ∧ sz = 1 ∧ xs ≠ []) ∧ K (dh fr d (.sla tok xs)) (tk.set tok (some (xs.length,t))) τ):=rfl
def asK (t:Nat) (s x:TV) (d:Option Nat) (K:ak) (fr:TF) (tk:TK) (τ:TH):Prop:=match x with | .str b => apK t 1 1 s (some (az b)) d K fr tk τ | _ => False
theorem zb5t (t:Nat) (s x:Operand):tG Γ dr (.appendS t s x) m d K fr tk τ = asK t (tO fr s) (tO fr x) d K fr tk τ:=by
 simp only [tG,tOp,asK,apK]
 cases tO fr x with
 | str b => simp only; cases lr t 1 1 (tO fr s) (az b) tk <;> rfl
 | _ => rfl
theorem zbln (t:Nat) (s:TV) (b:ByteArray):asK t s (.str b) d K fr tk τ = apK t 1 1 s (some (az b)) d K fr tk τ:=rfl
def tbK (mu:Bool) (t:Nat) (x:TV) (d:Option Nat) (K:ak) (fr:TF) (tk:TK) (τ:TH):Prop:=match x with | .str s => (bif mu then K (dh fr d (.slm τ.next 0 s.size 1)) tk (τ.push ⟨t,az s⟩) else K (dh fr d (.sl (az s))) tk τ) | _ => False
theorem zbuz (t:Nat) (x:Operand):tG Γ dr (.toBytes t x) 0 d K fr tk τ = tbK false t (tO fr x) d K fr tk τ:=by
 simp only [tG,tOp,tbK]
 cases tO fr x <;> rfl
theorem zbu0 (t:Nat) (x:Operand):tG Γ dr (.toBytes t x) 1 d K fr tk τ = tbK true t (tO fr x) d K fr tk τ:=by
 simp only [tG,tOp,tbK]
 cases tO fr x <;> rfl
def tbA (t:Nat) (x:TV) (d:Option Nat) (K:ak) (fr:TF) (tk:TK) (τ:TH):Prop:=match x with | .str s => K (dh fr d (if s.size = 0 then .slb tk.length t else .sla tk.length (az s))) (tk ++ [some (s.size,t)]) τ | _ => False
theorem zbu1 (t:Nat) (x:Operand):tG Γ dr (.toBytes t x) 2 d K fr tk τ = tbA t (tO fr x) d K fr tk τ:=by
 simp only [tG,tOp,tbA]
 cases tO fr x <;> rfl
theorem zbki (t:Nat) (s:ByteArray):tbA t (.str s) d K fr tk τ = K (dh fr d (if s.size = 0 then .slb tk.length t else .sla tk.length (az s))) (tk ++ [some (s.size,t)]) τ:=rfl
theorem zbkh (mu:Bool) (t:Nat) (s:ByteArray):tbK mu t (.str s) d K fr tk τ = (bif mu then K (dh fr d (.slm τ.next 0 s.size 1)) tk (τ.push ⟨t,az s⟩) else K (dh fr d (.sl (az s))) tk τ):=rfl
theorem zblr (t:Nat):tO fr (.tmp t) = lkp fr t:=rfl
theorem zbf1 (k:IntKind) (n:Int):tO fr (.const (.int k n)) = .int k n:=rfl
theorem zbbj (c:Bool):tO fr (.const (.bool c)) = .bool c:=rfl
theorem zbf0 (s:ByteArray):tO fr (.const (.string s)) = .str s:=rfl
theorem zbbf:tO fr (.const (.pointer none)) = .nilP:=rfl
theorem zbbe:tO fr (.const (.slice none 0 0)) = .slz:=rfl
theorem zbbg:tO fr (.const (.map none)) = .nilM:=rfl
theorem zbbi:tO fr (.const .nilFunc) = .nilF:=rfl
theorem zbbh:tO fr (.const .nilIface) = .nilI:=rfl
theorem zbfz (f:FuncId):tO fr (.func f) = .func f [] []:=rfl
theorem zbf2 (cs:List Value):tO fr (.const (.agg cs.toArray)) = .agg (cs.map ofS):=rfl
theorem za8s (k:IntKind) (n:Int):ofS (.int k n) = .int k n:=rfl
theorem zb23 (c:Bool):ofS (.bool c) = .bool c:=rfl
theorem za8r (s:ByteArray):ofS (.string s) = .str s:=rfl
theorem zb31:ofS (.pointer none) = .nilP:=rfl
theorem zb32:ofS (.slice none 0 0) = .slz:=rfl
theorem zb30:ofS (.map none) = .nilM:=rfl
theorem zb24:ofS .nilFunc = .nilF:=rfl
theorem zb3z:ofS .nilIface = .nilI:=rfl
theorem za9f (t:Nat) (v:TV) (l:TF):lkp ((t,v) :: l) t = v:=by simp [lkp]
theorem zb2s (t k:Nat) (v:TV) (l:TF) (h:(t = k) = False):lkp ((k,v) :: l) t = lkp l t:=by simp [lkp,h]
theorem zbt5 (t:Nat) (v:TV):dh fr (some t) v = (t,v) :: fr:=rfl
theorem zbt4 (v:TV):dh fr none v = fr:=rfl
theorem zbel:sel lv fr = lv.map fun t => (t,lkp fr t):=rfl
theorem zb02 (k:Nat):zbb0 k [] = []:=rfl
theorem zbrw (k:Nat) (v:TV) (l:List TV):zbb0 k (v :: l) = (k,v) :: zbb0 (k + 1) l:=rfl
end
theorem zbw1  :TV.cells  TV.undef = [TV.undef ]:=rfl
theorem zbvv  (b:Bool):TV.cells  (TV.bool b) = [TV.bool b]:=rfl
theorem zbr8  (k:IntKind) (n:Int):TV.cells  (TV.int k n) = [TV.int k n]:=rfl
theorem zbsf  (s:ByteArray):TV.cells  (TV.str s) = [TV.str s]:=rfl
theorem zbv0  :TV.cells  TV.nilP = [TV.nilP ]:=rfl
theorem zbr9  (id off:Nat):TV.cells  (TV.ptr id off) = [TV.ptr id off]:=rfl
theorem zbv1  (cs:List TV) (off:Nat):TV.cells  (TV.rptr cs off) = [TV.rptr cs off]:=rfl
theorem zbse  :TV.cells  TV.slz = [TV.slz ]:=rfl
theorem zb1z  (l:List TV):TV.cells  (TV.sl l) = [TV.sl l]:=rfl
theorem zbsa  (k:Nat) (l:List TV):TV.cells  (TV.sla k l) = [TV.sla k l]:=rfl
theorem zbsb  (k:Nat) (t:TypeId):TV.cells  (TV.slb k t) = [TV.slb k t]:=rfl
theorem zbsd  (t:TypeId) (l:List TV):TV.cells  (TV.slo t l) = [TV.slo t l]:=rfl
theorem zbsc  (id off n sz:Nat):TV.cells  (TV.slm id off n sz) = [TV.slm id off n sz]:=rfl
theorem zbvz  :TV.cells  TV.nilM = [TV.nilM ]:=rfl
theorem zbvx  :TV.cells  TV.nilF = [TV.nilF ]:=rfl
theorem zbvw  (f:FuncId) (a b:List TV):TV.cells  (TV.func f a b) = [TV.func f a b]:=rfl
theorem zbvy  :TV.cells  TV.nilI = [TV.nilI ]:=rfl
theorem zbr7  (cs:List TV):TV.cells  (TV.agg cs) = cs:=rfl
theorem zbrz  (cs:List TV):TV.cells  (TV.tup cs) = [TV.tup cs]:=rfl
theorem zbsw  :TV.one  TV.undef = false:=rfl
theorem zb33  (b:Bool):TV.one  (TV.bool b) = true:=rfl
theorem za8p  (k:IntKind) (n:Int):TV.one  (TV.int k n) = true:=rfl
theorem za8i  (s:ByteArray):TV.one  (TV.str s) = true:=rfl
theorem zb38  :TV.one  TV.nilP = true:=rfl
theorem za8o  (id off:Nat):TV.one  (TV.ptr id off) = true:=rfl
theorem zb3e  (cs:List TV) (off:Nat):TV.one  (TV.rptr cs off) = false:=rfl
theorem za8j  :TV.one  TV.slz = true:=rfl
theorem zbe3  (l:List TV):TV.one  (TV.sl l) = true:=rfl
theorem za8n  (k:Nat) (l:List TV):TV.one  (TV.sla k l) = true:=rfl
theorem za8m  (k:Nat) (t:TypeId):TV.one  (TV.slb k t) = true:=rfl
theorem za8k  (t:TypeId) (l:List TV):TV.one  (TV.slo t l) = true:=rfl
theorem za8l  (id off n sz:Nat):TV.one  (TV.slm id off n sz) = true:=rfl
theorem zb37  :TV.one  TV.nilM = true:=rfl
theorem zb35  :TV.one  TV.nilF = true:=rfl
theorem zb34  (f:FuncId) (a b:List TV):TV.one  (TV.func f a b) = true:=rfl
theorem zb36  :TV.one  TV.nilI = true:=rfl
theorem za8q  (cs:List TV):TV.one  (TV.agg cs) = false:=rfl
theorem za8h  (cs:List TV):TV.one  (TV.tup cs) = false:=rfl
theorem zbw7  :TV.known  TV.undef = false:=rfl
theorem zbvg  (b:Bool):TV.known  (TV.bool b) = true:=rfl
theorem zbsh  (k:IntKind) (n:Int):TV.known  (TV.int k n) = true:=rfl
theorem zbso  (s:ByteArray):TV.known  (TV.str s) = true:=rfl
theorem zbvl  :TV.known  TV.nilP = true:=rfl
theorem zbsi  (id off:Nat):TV.known  (TV.ptr id off) = true:=rfl
theorem zbvm  (cs:List TV) (off:Nat):TV.known  (TV.rptr cs off) = true:=rfl
theorem zbsn  :TV.known  TV.slz = true:=rfl
theorem zb2i  (l:List TV):TV.known  (TV.sl l) = true:=rfl
theorem zbsj  (k:Nat) (l:List TV):TV.known  (TV.sla k l) = true:=rfl
theorem zbsk  (k:Nat) (t:TypeId):TV.known  (TV.slb k t) = true:=rfl
theorem zbsm  (t:TypeId) (l:List TV):TV.known  (TV.slo t l) = true:=rfl
theorem zbsl  (id off n sz:Nat):TV.known  (TV.slm id off n sz) = true:=rfl
theorem zbvk  :TV.known  TV.nilM = true:=rfl
theorem zbvi  :TV.known  TV.nilF = true:=rfl
theorem zbvh  (f:FuncId) (a b:List TV):TV.known  (TV.func f a b) = true:=rfl
theorem zbvj  :TV.known  TV.nilI = true:=rfl
theorem zbsg  (cs:List TV):TV.known  (TV.agg cs) = true:=rfl
theorem zbsp  (cs:List TV):TV.known  (TV.tup cs) = true:=rfl
theorem zbu6  :TV.canS  TV.undef = TV.undef :=rfl
theorem zbrh  (b:Bool):TV.canS  (TV.bool b) = TV.bool b:=rfl
theorem zb2c  (k:IntKind) (n:Int):TV.canS  (TV.int k n) = TV.int k n:=rfl
theorem zb1n  (s:ByteArray):TV.canS  (TV.str s) = TV.str s:=rfl
theorem zbrm  :TV.canS  TV.nilP = TV.nilP :=rfl
theorem zb2d  (id off:Nat):TV.canS  (TV.ptr id off) = TV.ptr id off:=rfl
theorem zbrn  (cs:List TV) (off:Nat):TV.canS  (TV.rptr cs off) = TV.rptr cs off:=rfl
theorem zb1m  :TV.canS  TV.slz = .sl []:=rfl
theorem zbai  (l:List TV):TV.canS  (TV.sl l) = TV.sl l:=rfl
theorem zb2e  (k:Nat) (l:List TV):TV.canS  (TV.sla k l) = .sl l:=rfl
theorem zb2f  (k:Nat) (t:TypeId):TV.canS  (TV.slb k t) = .sl []:=rfl
theorem zb2h  (t:TypeId) (l:List TV):TV.canS  (TV.slo t l) = TV.slo t l:=rfl
theorem zb2g  (id off n sz:Nat):TV.canS  (TV.slm id off n sz) = TV.slm id off n sz:=rfl
theorem zbrl  :TV.canS  TV.nilM = TV.nilM :=rfl
theorem zbrj  :TV.canS  TV.nilF = TV.nilF :=rfl
theorem zbri  (f:FuncId) (a b:List TV):TV.canS  (TV.func f a b) = TV.func f a b:=rfl
theorem zbrk  :TV.canS  TV.nilI = TV.nilI :=rfl
theorem zb2b  (cs:List TV):TV.canS  (TV.agg cs) = TV.agg cs:=rfl
theorem zb1o  (cs:List TV):TV.canS  (TV.tup cs) = TV.tup cs:=rfl
theorem zbu5  :TV.canA  TV.undef = TV.undef :=rfl
theorem zbra  (b:Bool):TV.canA  (TV.bool b) = TV.bool b:=rfl
theorem zb1a  (k:IntKind) (n:Int):TV.canA  (TV.int k n) = TV.int k n:=rfl
theorem zb19  (s:ByteArray):TV.canA  (TV.str s) = TV.str s:=rfl
theorem zbrf  :TV.canA  TV.nilP = TV.nilP :=rfl
theorem zb1b  (id off:Nat):TV.canA  (TV.ptr id off) = TV.ptr id off:=rfl
theorem zbrg  (cs:List TV) (off:Nat):TV.canA  (TV.rptr cs off) = TV.rptr cs off:=rfl
theorem zb18  :TV.canA  TV.slz = .sl []:=rfl
theorem zbaj  (l:List TV):TV.canA  (TV.sl l) = TV.sl l:=rfl
theorem zb1c  (k:Nat) (l:List TV):TV.canA  (TV.sla k l) = .sl l:=rfl
theorem zb1d  (k:Nat) (t:TypeId):TV.canA  (TV.slb k t) = .sl []:=rfl
theorem zb1f  (t:TypeId) (l:List TV):TV.canA  (TV.slo t l) = TV.slo t l:=rfl
theorem zb1e  (id off n sz:Nat):TV.canA  (TV.slm id off n sz) = TV.slm id off n sz:=rfl
theorem zbre  :TV.canA  TV.nilM = TV.nilM :=rfl
theorem zbrc  :TV.canA  TV.nilF = TV.nilF :=rfl
theorem zbrb  (f:FuncId) (a b:List TV):TV.canA  (TV.func f a b) = TV.func f a b:=rfl
theorem zbrd  :TV.canA  TV.nilI = TV.nilI :=rfl
theorem zb09  (cs:List TV):TV.canA  (TV.agg cs) = .agg (cs.map TV.canS):=rfl
theorem zb2a  (cs:List TV):TV.canA  (TV.tup cs) = TV.tup cs:=rfl
theorem zbu7  :TV.canT  TV.undef = TV.undef :=rfl
theorem zbro  (b:Bool):TV.canT  (TV.bool b) = TV.bool b:=rfl
theorem zb1q  (k:IntKind) (n:Int):TV.canT  (TV.int k n) = TV.int k n:=rfl
theorem zb1x  (s:ByteArray):TV.canT  (TV.str s) = TV.str s:=rfl
theorem zbrt  :TV.canT  TV.nilP = TV.nilP :=rfl
theorem zb1r  (id off:Nat):TV.canT  (TV.ptr id off) = TV.ptr id off:=rfl
theorem zbr6  (cs:List TV) (off:Nat):TV.canT  (TV.rptr cs off) = TV.rptr cs off:=rfl
theorem zb1w  :TV.canT  TV.slz = .sl []:=rfl
theorem zbah  (l:List TV):TV.canT  (TV.sl l) = TV.sl l:=rfl
theorem zb1s  (k:Nat) (l:List TV):TV.canT  (TV.sla k l) = .sl l:=rfl
theorem zb1t  (k:Nat) (t:TypeId):TV.canT  (TV.slb k t) = .sl []:=rfl
theorem zb1v  (t:TypeId) (l:List TV):TV.canT  (TV.slo t l) = TV.slo t l:=rfl
theorem zb1u  (id off n sz:Nat):TV.canT  (TV.slm id off n sz) = TV.slm id off n sz:=rfl
theorem zbrs  :TV.canT  TV.nilM = TV.nilM :=rfl
theorem zbrq  :TV.canT  TV.nilF = TV.nilF :=rfl
theorem zbrp  (f:FuncId) (a b:List TV):TV.canT  (TV.func f a b) = TV.func f a b:=rfl
theorem zbrr  :TV.canT  TV.nilI = TV.nilI :=rfl
theorem zb1p  (cs:List TV):TV.canT  (TV.agg cs) = .agg (cs.map TV.canS):=rfl
theorem zb1y  (cs:List TV):TV.canT  (TV.tup cs) = .tup (cs.map TV.canA):=rfl
theorem zbvt  :TV.part  TV.undef = TV.undef :=rfl
theorem zbsx  (b:Bool):TV.part  (TV.bool b) = TV.bool b:=rfl
theorem zb3h  (k:IntKind) (n:Int):TV.part  (TV.int k n) = TV.int k n:=rfl
theorem zb3o  (s:ByteArray):TV.part  (TV.str s) = TV.str s:=rfl
theorem zbs3  :TV.part  TV.nilP = TV.nilP :=rfl
theorem zb3i  (id off:Nat):TV.part  (TV.ptr id off) = TV.ptr id off:=rfl
theorem zbtn  (cs:List TV) (off:Nat):TV.part  (TV.rptr cs off) = TV.rptr cs off:=rfl
theorem zb3n  :TV.part  TV.slz = TV.slz :=rfl
theorem za8e  (l:List TV):TV.part  (TV.sl l) = TV.sl l:=rfl
theorem zb3j  (k:Nat) (l:List TV):TV.part  (TV.sla k l) = .sl l:=rfl
theorem zb3k  (k:Nat) (t:TypeId):TV.part  (TV.slb k t) = .sl []:=rfl
theorem zb3m  (t:TypeId) (l:List TV):TV.part  (TV.slo t l) = TV.slo t l:=rfl
theorem zb3l  (id off n sz:Nat):TV.part  (TV.slm id off n sz) = TV.slm id off n sz:=rfl
theorem zbs2  :TV.part  TV.nilM = TV.nilM :=rfl
theorem zbs0  :TV.part  TV.nilF = TV.nilF :=rfl
theorem zbsz  (f:FuncId) (a b:List TV):TV.part  (TV.func f a b) = TV.func f a b:=rfl
theorem zbs1  :TV.part  TV.nilI = TV.nilI :=rfl
theorem zb3g  (cs:List TV):TV.part  (TV.agg cs) = TV.agg cs:=rfl
theorem zb3p  (cs:List TV):TV.part  (TV.tup cs) = TV.tup cs:=rfl
theorem zbtg  :TV.put  TV.undef = TV.undef :=rfl
theorem zb4w  (b:Bool):TV.put  (TV.bool b) = TV.bool b:=rfl
theorem za78  (k:IntKind) (n:Int):TV.put  (TV.int k n) = TV.int k n:=rfl
theorem za4w  (s:ByteArray):TV.put  (TV.str s) = TV.str s:=rfl
theorem zb41  :TV.put  TV.nilP = TV.nilP :=rfl
theorem za77  (id off:Nat):TV.put  (TV.ptr id off) = TV.ptr id off:=rfl
theorem zb42  (cs:List TV) (off:Nat):TV.put  (TV.rptr cs off) = TV.rptr cs off:=rfl
theorem za4x  :TV.put  TV.slz = TV.slz :=rfl
theorem zbe0  (l:List TV):TV.put  (TV.sl l) = TV.sl l:=rfl
theorem za76  (k:Nat) (l:List TV):TV.put  (TV.sla k l) = .sl l:=rfl
theorem za5f  (k:Nat) (t:TypeId):TV.put  (TV.slb k t) = .sl []:=rfl
theorem za5d  (t:TypeId) (l:List TV):TV.put  (TV.slo t l) = TV.slo t l:=rfl
theorem za5e  (id off n sz:Nat):TV.put  (TV.slm id off n sz) = TV.slm id off n sz:=rfl
theorem zb40  :TV.put  TV.nilM = TV.nilM :=rfl
theorem zb4y  :TV.put  TV.nilF = TV.nilF :=rfl
theorem zb4x  (f:FuncId) (a b:List TV):TV.put  (TV.func f a b) = TV.func f a b:=rfl
theorem zb4z  :TV.put  TV.nilI = TV.nilI :=rfl
theorem za79  (cs:List TV):TV.put  (TV.agg cs) = TV.agg cs:=rfl
theorem za4v  (cs:List TV):TV.put  (TV.tup cs) = TV.tup cs:=rfl
theorem zb39  :TV.rd  TV.undef = TV.undef :=rfl
theorem za2l  (b:Bool):TV.rd  (TV.bool b) = TV.bool b:=rfl
theorem zbey  (k:IntKind) (n:Int):TV.rd  (TV.int k n) = TV.int k n:=rfl
theorem zber  (s:ByteArray):TV.rd  (TV.str s) = TV.str s:=rfl
theorem za0z  :TV.rd  TV.nilP = TV.nilP :=rfl
theorem zbex  (id off:Nat):TV.rd  (TV.ptr id off) = TV.ptr id off:=rfl
theorem za0n  (cs:List TV) (off:Nat):TV.rd  (TV.rptr cs off) = TV.rptr cs off:=rfl
theorem zbes  :TV.rd  TV.slz = TV.slz :=rfl
theorem zbkq  (l:List TV):TV.rd  (TV.sl l) = TV.sl l:=rfl
theorem zbew  (k:Nat) (l:List TV):TV.rd  (TV.sla k l) = TV.sla k l:=rfl
theorem zbev  (k:Nat) (t:TypeId):TV.rd  (TV.slb k t) = TV.slb k t:=rfl
theorem zbet  (t:TypeId) (l:List TV):TV.rd  (TV.slo t l) = .sl l:=rfl
theorem zbeu  (id off n sz:Nat):TV.rd  (TV.slm id off n sz) = TV.slm id off n sz:=rfl
theorem za03  :TV.rd  TV.nilM = TV.nilM :=rfl
theorem za1o  :TV.rd  TV.nilF = TV.nilF :=rfl
theorem za2i  (f:FuncId) (a b:List TV):TV.rd  (TV.func f a b) = TV.func f a b:=rfl
theorem za1n  :TV.rd  TV.nilI = TV.nilI :=rfl
theorem zbez  (cs:List TV):TV.rd  (TV.agg cs) = TV.agg cs:=rfl
theorem zbeq  (cs:List TV):TV.rd  (TV.tup cs) = TV.tup cs:=rfl
theorem zb2q  :TV.list  TV.slz = some []:=rfl
theorem za9g  (l:List TV):TV.list  (TV.sl l) = some l:=rfl
theorem zb2p  (k:Nat) (l:List TV):TV.list  (TV.sla k l) = some l:=rfl
theorem zbx4  :TV.pureS  TV.undef = false:=rfl
theorem zbwm  (b:Bool):TV.pureS  (TV.bool b) = true:=rfl
theorem zbtu  (k:IntKind) (n:Int):TV.pureS  (TV.int k n) = true:=rfl
theorem zbs8  (s:ByteArray):TV.pureS  (TV.str s) = true:=rfl
theorem zbwq  :TV.pureS  TV.nilP = true:=rfl
theorem zbtv  (id off:Nat):TV.pureS  (TV.ptr id off) = false:=rfl
theorem zbwr  (cs:List TV) (off:Nat):TV.pureS  (TV.rptr cs off) = false:=rfl
theorem zbs7  :TV.pureS  TV.slz = false:=rfl
theorem zb3q  (l:List TV):TV.pureS  (TV.sl l) = true:=rfl
theorem zbtw  (k:Nat) (l:List TV):TV.pureS  (TV.sla k l) = false:=rfl
theorem zbs4  (k:Nat) (t:TypeId):TV.pureS  (TV.slb k t) = false:=rfl
theorem zbs6  (t:TypeId) (l:List TV):TV.pureS  (TV.slo t l) = false:=rfl
theorem zbs5  (id off n sz:Nat):TV.pureS  (TV.slm id off n sz) = false:=rfl
theorem zbwp  :TV.pureS  TV.nilM = true:=rfl
theorem zbwn  :TV.pureS  TV.nilF = true:=rfl
theorem zbwo  :TV.pureS  TV.nilI = true:=rfl
theorem zbtt  (cs:List TV):TV.pureS  (TV.agg cs) = false:=rfl
theorem zbs9  (cs:List TV):TV.pureS  (TV.tup cs) = false:=rfl
theorem zbx3 (f:FuncId):TV.pureS (.func f [] []) = true:=rfl
theorem zbws  :TV.pure  TV.undef = false:=rfl
theorem zbta  (b:Bool):TV.pure  (TV.bool b) = true:=rfl
theorem zb3s  (k:IntKind) (n:Int):TV.pure  (TV.int k n) = true:=rfl
theorem zb4u  (s:ByteArray):TV.pure  (TV.str s) = true:=rfl
theorem zbte  :TV.pure  TV.nilP = true:=rfl
theorem zb3t  (id off:Nat):TV.pure  (TV.ptr id off) = false:=rfl
theorem zbtf  (cs:List TV) (off:Nat):TV.pure  (TV.rptr cs off) = false:=rfl
theorem zb3y  :TV.pure  TV.slz = false:=rfl
theorem za8a  (l:List TV):TV.pure  (TV.sl l) = true:=rfl
theorem zb3u  (k:Nat) (l:List TV):TV.pure  (TV.sla k l) = false:=rfl
theorem zb3v  (k:Nat) (t:TypeId):TV.pure  (TV.slb k t) = false:=rfl
theorem zb3x  (t:TypeId) (l:List TV):TV.pure  (TV.slo t l) = false:=rfl
theorem zb3w  (id off n sz:Nat):TV.pure  (TV.slm id off n sz) = false:=rfl
theorem zbtd  :TV.pure  TV.nilM = true:=rfl
theorem zbtb  :TV.pure  TV.nilF = true:=rfl
theorem zbtc  :TV.pure  TV.nilI = true:=rfl
theorem zb3r  (cs:List TV):TV.pure  (TV.agg cs) = cs.all TV.pureS:=rfl
theorem zb4v  (cs:List TV):TV.pure  (TV.tup cs) = false:=rfl
theorem zbx9 (n:Nat) :TV.under n TV.undef = true:=by simp [TV.under]
theorem zb2v (n m:Nat) :TV.lt n m TV.undef = true:=by simp [TV.lt]
theorem zbwd (n:Nat) (b:Bool):TV.under n (TV.bool b) = true:=by simp [TV.under]
theorem za87 (n m:Nat) (b:Bool):TV.lt n m (TV.bool b) = true:=by simp [TV.lt]
theorem zbt9 (n:Nat) (k:IntKind) (q:Int):TV.under n (TV.int k q) = true:=by simp [TV.under]
theorem zbfi (n m:Nat) (k:IntKind) (q:Int):TV.lt n m (TV.int k q) = true:=by simp [TV.lt]
theorem zbug (n:Nat) (s:ByteArray):TV.under n (TV.str s) = true:=by simp [TV.under]
theorem zbfb (n m:Nat) (s:ByteArray):TV.lt n m (TV.str s) = true:=by simp [TV.lt]
theorem zbwi (n:Nat) :TV.under n TV.nilP = true:=by simp [TV.under]
theorem za80 (n m:Nat) :TV.lt n m TV.nilP = true:=by simp [TV.lt]
theorem zbua (n:Nat) (id off:Nat):TV.under n (TV.ptr id off) = decide (id < n):=by simp [TV.under]
theorem zbfh (n m:Nat) (id off:Nat):TV.lt n m (TV.ptr id off) = decide (id < n):=by simp [TV.lt]
theorem zbwj (n:Nat) (cs:List TV) (off:Nat):TV.under n (TV.rptr cs off) = true:=by simp [TV.under]
theorem za8z (n m:Nat) (cs:List TV) (off:Nat):TV.lt n m (TV.rptr cs off) = true:=by simp [TV.lt]
theorem zbuf (n:Nat) :TV.under n TV.slz = true:=by simp [TV.under]
theorem zbfc (n m:Nat) :TV.lt n m TV.slz = true:=by simp [TV.lt]
theorem zb5d (n:Nat) (l:List TV):TV.under n (TV.sl l) = true:=by simp [TV.under]
theorem zbkz (n m:Nat) (l:List TV):TV.lt n m (TV.sl l) = true:=by simp [TV.lt]
theorem zbub (n:Nat) (k:Nat) (l:List TV):TV.under n (TV.sla k l) = false:=by simp [TV.under]
theorem zbfg (n m:Nat) (k:Nat) (l:List TV):TV.lt n m (TV.sla k l) = decide (k < m):=by simp [TV.lt]
theorem zbuc (n:Nat) (k:Nat) (t:TypeId):TV.under n (TV.slb k t) = false:=by simp [TV.under]
theorem zbff (n m:Nat) (k:Nat) (t:TypeId):TV.lt n m (TV.slb k t) = decide (k < m):=by simp [TV.lt]
theorem zbue (n:Nat) (t:TypeId) (l:List TV):TV.under n (TV.slo t l) = true:=by simp [TV.under]
theorem zbfd (n m:Nat) (t:TypeId) (l:List TV):TV.lt n m (TV.slo t l) = true:=by simp [TV.lt]
theorem zbud (n:Nat) (id off q sz:Nat):TV.under n (TV.slm id off q sz) = decide (id < n):=by simp [TV.under]
theorem zbfe (n m:Nat) (id off q sz:Nat):TV.lt n m (TV.slm id off q sz) = decide (id < n):=by simp [TV.lt]
theorem zbwh (n:Nat) :TV.under n TV.nilM = true:=by simp [TV.under]
theorem za81 (n m:Nat) :TV.lt n m TV.nilM = true:=by simp [TV.lt]
theorem zbwf (n:Nat) :TV.under n TV.nilF = true:=by simp [TV.under]
theorem za83 (n m:Nat) :TV.lt n m TV.nilF = true:=by simp [TV.lt]
theorem zbwe (n:Nat) (f:FuncId) (a b:List TV):TV.under n (TV.func f a b) = (eo n a && eo n b):=by simp [TV.under]
theorem za86 (n m:Nat) (f:FuncId) (a b:List TV):TV.lt n m (TV.func f a b) = (ltL n m a && ltL n m b):=by simp [TV.lt]
theorem zbwg (n:Nat) :TV.under n TV.nilI = true:=by simp [TV.under]
theorem za82 (n m:Nat) :TV.lt n m TV.nilI = true:=by simp [TV.lt]
theorem zbt8 (n:Nat) (cs:List TV):TV.under n (TV.agg cs) = eo n cs:=by simp [TV.under]
theorem zbfj (n m:Nat) (cs:List TV):TV.lt n m (TV.agg cs) = ltL n m cs:=by simp [TV.lt]
theorem zbuh (n:Nat) (cs:List TV):TV.under n (TV.tup cs) = eo n cs:=by simp [TV.under]
theorem zbfa (n m:Nat) (cs:List TV):TV.lt n m (TV.tup cs) = ltL n m cs:=by simp [TV.lt]
theorem zbwc (n:Nat):eo n [] = true:=by simp [eo]
theorem zbx8 (n:Nat) (v:TV) (l:List TV):eo n (v :: l) = (v.under n && eo n l):=by simp [eo]
theorem za88 (n m:Nat):ltL n m [] = true:=by simp [ltL]
theorem zb2u (n m:Nat) (v:TV) (l:List TV):ltL n m (v :: l) = (v.lt n m && ltL n m l):=by simp [ltL]
theorem qp {Γ:FuncId → Option TG} {lv:List Nat} {a:TC} {Q:TEx → ak} {fr:TF} {tk:TK} {τ:TH} (h:∀ LQ:TEx → ak,(∀ fr' tk' τ',LQ .normal fr' tk' τ' = zbft lv tk τ fr' tk' τ' (tW Γ (.loop lv a) Q)) → (LQ .ret = Q .ret) → (∀ id,LQ (.exit id) = Q (.exit id)) → tW Γ a LQ (sel lv fr) tk τ):tW Γ (.loop lv a) Q fr tk τ:=by
 rw [zbg1]
 exact h _ (fun fr' tk' τ' => zbp9 Γ fr' tk tk' τ τ' a lv Q) rfl fun _ => rfl
def nm:List (Nat × TG) → FuncId → Option TG
 | [],_ => none
 | (k,g) :: r,f => if f = k then some g else nm r f
def zbi0 (P:Program) (l:List (Nat × TG)):Prop:=∀ p ∈ l,match p.2 with
 | .code fn => ∃ H,ud P H p.1 = some (fn.n,fn.c.erase,fn.rs)
 | .prim g => ∀ args τ r τ',g args τ = some (r,τ') → zbbw P p.1 args τ r τ'
theorem zbhm {P:Program}:zbi0 P []:=fun p hp => by simp at hp
theorem ba {P:Program} {H:List (Nat × DH)} {f n:Nat} {c:TC} {rs:List R} {fz:Bool} (h:ud P H f = some (n,c.erase,rs)) {l:List (Nat × TG)} (k:zbi0 P l):zbi0 P ((f,.code ⟨n,c,rs,fz⟩) :: l):=fun p hp => by
 rcases List.mem_cons.1 hp with rfl | hp
 · exact ⟨H,h⟩
 · exact k p hp
theorem zbnx {P:Program} {f:Nat} {g:List TV → TH → Option (TV × TH)} (h:∀ args τ r τ',g args τ = some (r,τ') → zbbw P f args τ r τ') {l:List (Nat × TG)} (k:zbi0 P l):zbi0 P ((f,.prim g) :: l):=fun p hp => by
 rcases List.mem_cons.1 hp with rfl | hp
 · exact h
 · exact k p hp
theorem zbr4:∀ {l:List (Nat × TG)} {f:Nat} {g:TG},nm l f = some g → (f,g) ∈ l
 | [],_,_,h => by cases h
 | (k,g) :: r,f,g',h => by
  simp only [nm] at h
  split at h
  · rename_i e; injection h with h; subst e h; simp
  · exact List.mem_cons_of_mem _ (zbr4 h)
theorem zbc4 {P:Program} {l:List (Nat × TG)} (h:zbi0 P l):GOK P (nm l):=fun f => by
 cases hq:nm l f with
 | none => trivial
 | some g =>
  have:=h _ (zbr4 hq)
  cases g with
  | code fn => exact this
  | prim g => exact this
section
variable (τ:TH) (b c:Ob) (id k n:Nat)
def zbh5 (o:Option Ob) (off:Nat):Option TV:=match o with | some b => (b.cs[off]?).map TV.rd | none => none
def zbql (o:Option Ob) (off n:Nat):Option (List TV):=match o with | some b => if off + n ≤ b.cs.length then some (((b.cs.drop off).take n).map TV.rd) else none | none => none
theorem zb44 (off:Nat):zbb2 τ id off = zbh5 (τ.at id) off:=by unfold zbb2 zbh5; cases τ.at id <;> rfl
theorem zaeb (off:Nat):j7 τ id off n = zbql (τ.at id) off n:=by unfold j7 zbql; cases τ.at id <;> rfl
theorem zbvu (t:TypeId) (cs:List TV) (off:Nat):zbh5 (some ⟨t,cs⟩) off = (cs[off]?).map TV.rd:=rfl
theorem zbtl (t:TypeId) (cs:List TV) (off:Nat):zbql (some ⟨t,cs⟩) off n = if off + n ≤ cs.length then some (((cs.drop off).take n).map TV.rd) else none:=rfl
theorem zbrx:(τ.push b).at τ.next = some b:=zbju
theorem zbu3 (h:id = τ.next):(τ.push b).at id = some b:=by subst h; exact zbju
theorem zbry (h:id < τ.next):(τ.push b).at id = τ.at id:=ue h
theorem ag:(τ.push b).next = τ.next + 1:=va
theorem aa:(τ.put id b).next = τ.next:=ik
theorem za8w:(τ.locked n).next = τ.next:=rfl
theorem zbh9:(τ.locked n).at id = τ.at id:=rfl
theorem ar:(τ.push b).lock = τ.lock:=rfl
theorem af:(τ.put id b).lock = τ.lock:=rfl
theorem za9d:(τ.cut n).lock = τ.lock:=rfl
theorem za9c:(τ.locked n).lock = n:=rfl
theorem zblm (h:id < τ.next):(τ.put id b).at id = some b:=pv h
theorem zb04 (h:(k = id) = False):(τ.put id b).at k = τ.at k:=uf (by simpa using h)
theorem zbb5:(τ.put id b).put id c = τ.put id c:=by simp [TH.put]
theorem zbtr (h:id = τ.next):(τ.push b).put id c = τ.push c:=by subst h; simp [TH.put,TH.push,TH.next,List.set_append_right]
theorem zbts (h:id < τ.next):(τ.push b).put id c = (τ.put id c).push b:=by simp only [TH.put,TH.push,TH.next] at *; rw [List.set_append_left _ _ h]
theorem zb11 (h:n ≤ τ.next):(τ.push b).cut n = τ.cut n:=by simp only [TH.cut,TH.push,TH.next] at *; rw [List.take_append_of_le_length h]
theorem f0 (h:τ.next ≤ n):τ.cut n = τ:=zbpz h
theorem zbvb:(τ.locked k).cut n = (τ.cut n).locked k:=rfl
theorem zbx5:(τ.locked k).push b = (τ.push b).locked k:=rfl
theorem zbwt:(τ.locked k).put id b = (τ.put id b).locked k:=rfl
theorem zby6:(τ.locked k).locked n = τ.locked n:=rfl
theorem zbxl:τ.locked τ.lock = τ:=rfl
end
section
variable (k:IntKind) (x y:Int) (s u:ByteArray)
theorem zbec:yd .add (.int k x) (.int k y) = some (.int k (k.wrap (x + y))):=by simp [yd,b8,fi,ofS]
theorem zbdy:yd .sub (.int k x) (.int k y) = some (.int k (k.wrap (x - y))):=by simp [yd,b8,fi,ofS]
theorem zbd4:yd .mul (.int k x) (.int k y) = some (.int k (k.wrap (x * y))):=by simp [yd,b8,fi,ofS]
theorem zbeb:yd .and (.int k x) (.int k y) = some (.int k (k.wrap (BitVec.ofInt k.bits x &&& BitVec.ofInt k.bits y).toNat)):=by simp [yd,b8,fi,ofS]
theorem zbkc:yd .or (.int k x) (.int k y) = some (.int k (k.wrap (BitVec.ofInt k.bits x ||| BitVec.ofInt k.bits y).toNat)):=by simp [yd,b8,fi,ofS]
theorem zbdx:yd .xor (.int k x) (.int k y) = some (.int k (k.wrap (BitVec.ofInt k.bits x ^^^ BitVec.ofInt k.bits y).toNat)):=by simp [yd,b8,fi,ofS]
theorem zbd5:yd .lss (.int k x) (.int k y) = some (.bool (decide (x < y))):=by simp [yd,b8,fi,ofS]
theorem zbd6:yd .leq (.int k x) (.int k y) = some (.bool (decide (x ≤ y))):=by simp [yd,b8,fi,ofS]
theorem zbd7:yd .gtr (.int k x) (.int k y) = some (.bool (decide (y < x))):=by simp [yd,b8,fi,ofS]
theorem zbd8:yd .geq (.int k x) (.int k y) = some (.bool (decide (y ≤ x))):=by simp [yd,b8,fi,ofS]
theorem zbd9:yd .eql (.int k x) (.int k y) = some (.bool (decide (x = y))):=by simp [yd,b8,fi,ofS]; rfl
theorem zbd3:yd .neq (.int k x) (.int k y) = some (.bool (decide (¬ x = y))):=by simp [yd,b8,fi,ofS]; rfl
theorem zbd2:yd .quo (.int k x) (.int k y) = if y = 0 then none else some (.int k (k.wrap (x.tdiv y))):=by simp [yd,b8,fi,ofS]; split <;> simp [ofS]
theorem zbd1:yd .rem (.int k x) (.int k y) = if y = 0 then none else some (.int k (x.tmod y)):=by simp [yd,b8,fi,ofS]; split <;> simp [ofS]
theorem zbd0 (j:IntKind):yd .shl (.int k x) (.int j y) = if y < 0 then none else some (.int k (k.wrap (x * 2 ^ (Nat.min y.toNat k.bits)))):=by simp [yd,b8,zbgc,ofS]; split <;> simp [ofS]
theorem zbdz (j:IntKind):yd .shr (.int k x) (.int j y) = if y < 0 then none else some (.int k (x.fdiv (2 ^ (Nat.min y.toNat k.bits)))):=by simp [yd,b8,zbgc,ofS]; split <;> simp [ofS]
theorem zbea:yd .add (.str s) (.str u) = if 9223372036854775807 < ((s.size + u.size:Nat):Int) then none else some (.str (s ++ u)):=by
 have e:IntKind.i64.max = 9223372036854775807:=by decide
 simp only [yd,zau4,e]
 split
 · rfl
 · rfl
theorem zbxw {s u:ByteArray}:s.toList = u.toList ↔ s = u:=by
 constructor
 · intro h
   rw [ByteArray.toList_eq,ByteArray.toList_eq] at h
   cases s; cases u; simp_all
 · rintro rfl; rfl
theorem zamt:yd .eql (.str s) (.str u) = some (.bool (decide (s = u))):=by simp only [yd,zau4,Option.map_some,ofS]; congr 2; by_cases h:s = u <;> simp [h,zbxw]
theorem zams:yd .neq (.str s) (.str u) = some (.bool (decide (¬ s = u))):=by simp only [yd,zau4,Option.map_some,ofS]; congr 2; by_cases h:s = u <;> simp [h,zbxw]
theorem zbdo (b:Bool):tun .not (.bool b) = some (.bool !b):=rfl
def zbqp (k:IntKind) (x:Int):Int:=k.wrap (BitVec.ofInt k.bits (if k.signed then -1 else k.max) ^^^ BitVec.ofInt k.bits x).toNat
theorem zbdn:tun .xor (.int k x) = some (.int k (zbqp k x)):=rfl
theorem zbdp:tun .neg (.int k x) = some (.int k (k.wrap (0 - x))):=rfl
end
theorem zbw6 (c:Prop) [Decidable c] (v:TV) (d:Option Nat) (K:ak) (fr:TF) (tk:TK) (τ:TH):pK (if c then none else some v) d K fr tk τ = (¬ c ∧ K (dh fr d v) tk τ):=by unfold pK; by_cases h:c <;> simp [h]
theorem za84 {g n k:Nat} (h:g < n):(g < n + k) = True:=by simp; omega
theorem za9l {g n k:Nat} (h:g ≤ n):(g ≤ n + k) = True:=by simp; omega
theorem za8y (n k:Nat):(n < n + k) = (0 < k):=by simp
theorem za85 (n j k:Nat):(n + j < n + k) = (j < k):=by simp
theorem za9k (n k:Nat):(n ≤ n + k) = True:=by simp
theorem za9m (n j k:Nat):(n + j ≤ n + k) = (j ≤ k):=by simp
theorem zbaa (n j k:Nat):(n + j = n + k) = (j = k):=by simp
theorem zbw4 (n k:Nat):(n = n + k) = (k = 0):=by simp
theorem zbyg (n k:Nat):(n + k = n) = (k = 0):=by simp
theorem zbyl (n:Nat):(n < n) = False:=by simp
theorem zba9 (n j k:Nat):n + j + k = n + (j + k):=Nat.add_assoc n j k
theorem zb4n (i o j p:Nat):TV.same (.ptr i o) (.ptr j p) = (i == j && o == p):=rfl
theorem zb4m (k j:IntKind) (n m:Int):TV.same (.int k n) (.int j m) = (decide (k = j) && decide (n = m)):=rfl
theorem zbuj (a b:Bool):TV.same (.bool a) (.bool b) = (a == b):=rfl
theorem zb4o (a b:ByteArray):TV.same (.str a) (.str b) = decide (a = b):=rfl
theorem zbuk (f g:FuncId) (a b c d:List TV):TV.same (.func f a b) (.func g c d) = (decide (f = g) && (zbbx a c && zbbx b d)):=rfl
theorem zbui:zbbx [] [] = true:=rfl
theorem zbv2 (v w:TV) (r s:List TV):zbbx (v :: r) (w :: s) = (v.same w && zbbx r s):=rfl
theorem zbtk (fr:TF) (τ:TH) (d:Nat) (i:I) (g:Option (Nat × Bool)):zbl4 ⟨some d,i,g⟩ fr τ = zbnh (zbjh i fr τ) (lkp fr d):=rfl
theorem zbth (fr:TF) (τ:TH) (x:Operand):zbjh (.load1 x) fr τ = rdO (tO fr x) τ:=rfl
theorem za20 (τ:TH) (id off:Nat):rdO (.ptr id off) τ = rdB (τ.at id) off:=rfl
theorem zb43 (t:TypeId) (cs:List TV) (off:Nat):rdB (some ⟨t,cs⟩) off = (cs[off]?).map TV.rd:=rfl
theorem zbtm (v w:TV):zbnh (some v) w = v.same w:=rfl
theorem zb13:decide True = true:=rfl
theorem zb12:decide False = false:=rfl
theorem TT0:type_of% (ai (ai (ai (ai @zbfw @zbfx) (ai @zblp @zblq)) (ai (ai @zb0w @zb5i) (ai @zbty @zape))) (ai (ai (ai @zb5l @zapm) (ai @zb5j @zb5k)) (ai (ai @zbba @zblo) (ai @zbfy @zbbc)))):=(ai (ai (ai (ai @zbfw @zbfx) (ai @zblp @zblq)) (ai (ai @zb0w @zb5i) (ai @zbty @zape))) (ai (ai (ai @zb5l @zapm) (ai @zb5j @zb5k)) (ai (ai @zbba @zblo) (ai @zbfy @zbbc))))
theorem TT1:type_of% (ai (ai (ai (ai @zbbb @zbas) (ai @zae4 @zae0)) (ai (ai @zaf6 @zb06) (ai @zb05 @zbq9))) (ai (ai (ai @zb07 @zbp9) (ai @za89 @za9a)) (ai (ai @zbax @zbem) (ai @zben @zawe)))):=(ai (ai (ai (ai @zbbb @zbas) (ai @zae4 @zae0)) (ai (ai @zaf6 @zb06) (ai @zb05 @zbq9))) (ai (ai (ai @zb07 @zbp9) (ai @za89 @za9a)) (ai (ai @zbax @zbem) (ai @zben @zawe))))
theorem TT2:type_of% (ai (ai (ai (ai @zax0 @zb25) (ai @zb4k @zbdr)) (ai (ai @zbds @zbdq) (ai @zbyn @zbz0))) (ai (ai (ai @zbva @zbxy) (ai @zbv9 @zbwa)) (ai (ai @za4j @za3x) (ai @zbeg @zaqf)))):=(ai (ai (ai (ai @zax0 @zb25) (ai @zb4k @zbdr)) (ai (ai @zbds @zbdq) (ai @zbyn @zbz0))) (ai (ai (ai @zbva @zbxy) (ai @zbv9 @zbwa)) (ai (ai @za4j @za3x) (ai @zbeg @zaqf))))
theorem TT3:type_of% (ai (ai (ai (ai @zaqe @zaqh) (ai @zb5e @zb5f)) (ai (ai @zbk7 @zbla) (ai @zbk8 @zbk9))) (ai (ai (ai @zbfo @zbga) (ai @zbbt @zb46)) (ai (ai @zbt1 @zbus) (ai @zajp @zb5b)))):=(ai (ai (ai (ai @zaqe @zaqh) (ai @zb5e @zb5f)) (ai (ai @zbk7 @zbla) (ai @zbk8 @zbk9))) (ai (ai (ai @zbfo @zbga) (ai @zbbt @zb46)) (ai (ai @zbt1 @zbus) (ai @zajp @zb5b))))
theorem TT4:type_of% (ai (ai (ai (ai @zbt2 @zajo) (ai @zb47 @zaf8)) (ai (ai @zb5a @zbdu) (ai @zakt @zajl))) (ai (ai (ai @zb48 @zaf9) (ai @zb49 @zag4)) (ai (ai @zbbs @zbbr) (ai @zb1h @zbad)))):=(ai (ai (ai (ai @zbt2 @zajo) (ai @zb47 @zaf8)) (ai (ai @zb5a @zbdu) (ai @zakt @zajl))) (ai (ai (ai @zb48 @zaf9) (ai @zb49 @zag4)) (ai (ai @zbbs @zbbr) (ai @zb1h @zbad))))
theorem TT5:type_of% (ai (ai (ai (ai @za8f @zbe2) (ai @zb3f @zbqc)) (ai (ai @zblt @zbf5) (ai @zbf6 @zb21))) (ai (ai (ai @zbf4 @za8d) (ai @zbbo @za9o)) (ai (ai @zb2j @zbbm) (ai @za9n @zb2k)))):=(ai (ai (ai (ai @za8f @zbe2) (ai @zb3f @zbqc)) (ai (ai @zblt @zbf5) (ai @zbf6 @zb21))) (ai (ai (ai @zbf4 @za8d) (ai @zbbo @za9o)) (ai (ai @zb2j @zbbm) (ai @za9n @zb2k))))
theorem TT6:type_of% (ai (ai (ai (ai @zb1l @zb20) (ai @zbsv @zbsu)) (ai (ai @zblz @zblx) (ai @zbfr @zbbp))) (ai (ai (ai @zbxu @zbv6) (ai @zbxv @zbv8)) (ai (ai @zbt3 @zbv7) (ai @zbxt @zbxs)))):=(ai (ai (ai (ai @zb1l @zb20) (ai @zbsv @zbsu)) (ai (ai @zblz @zblx) (ai @zbfr @zbbp))) (ai (ai (ai @zbxu @zbv6) (ai @zbxv @zbv8)) (ai (ai @zbt3 @zbv7) (ai @zbxt @zbxs))))
theorem TT7:type_of% (ai (ai (ai (ai @zbxr @zb61) (ai @zbf9 @zbag)) (ai (ai @zbbq @zb10) (ai @zbww @za9i))) (ai (ai (ai @zb2o @zb4c) (ai @zbti @zaz8)) (ai (ai @zbtj @zb4d) (ai @za0j @zayg)))):=(ai (ai (ai (ai @zbxr @zb61) (ai @zbf9 @zbag)) (ai (ai @zbbq @zb10) (ai @zbww @za9i))) (ai (ai (ai @zb2o @zb4c) (ai @zbti @zaz8)) (ai (ai @zbtj @zb4d) (ai @za0j @zayg))))
theorem TT8:type_of% (ai (ai (ai (ai @zb4i @zb4j) (ai @zayw @zbep)) (ai (ai @zaz7 @zaz6) (ai @zayx @zayy))) (ai (ai (ai @zb4h @zb4f) (ai @zb4e @zb4g)) (ai (ai @za0l @zayf) (ai @za99 @zb17)))):=(ai (ai (ai (ai @zb4i @zb4j) (ai @zayw @zbep)) (ai (ai @zaz7 @zaz6) (ai @zayx @zayy))) (ai (ai (ai @zb4h @zb4f) (ai @zb4e @zb4g)) (ai (ai @za0l @zayf) (ai @za99 @zb17))))
theorem TT9:type_of% (ai (ai (ai (ai @zb1i @za98) (ai @zb1j @za97)) (ai (ai @zbuw @za9u) (ai @zb3c @zb5w))) (ai (ai (ai @zbfl @za9t) (ai @za9s @zbux)) (ai (ai @zbk4 @zbuy) (ai @zbko @zbru)))):=(ai (ai (ai (ai @zb1i @za98) (ai @zb1j @za97)) (ai (ai @zbuw @za9u) (ai @zb3c @zb5w))) (ai (ai (ai @zbfl @za9t) (ai @za9s @zbux)) (ai (ai @zbk4 @zbuy) (ai @zbko @zbru))))
theorem zb6z:type_of% (ai (ai (ai (ai @zbej @zaup) (ai @zauk @zbkd)) (ai (ai @zbkf @zbke) (ai @zbkg @za8x))) (ai (ai (ai @zbf7 @zbfk) (ai @zbf8 @zb2m)) (ai (ai @za9j @zb2l) (ai @zb2n @zblu)))):=(ai (ai (ai (ai @zbej @zaup) (ai @zauk @zbkd)) (ai (ai @zbkf @zbke) (ai @zbkg @za8x))) (ai (ai (ai @zbf7 @zbfk) (ai @zbf8 @zb2m)) (ai (ai @za9j @zb2l) (ai @zb2n @zblu))))
theorem zb6y:type_of% (ai (ai (ai (ai @zbe7 @zblv) (ai @zbe8 @zb1k)) (ai (ai @zb5v @zbld) (ai @zbbu @zbt0))) (ai (ai (ai @zbv5 @zbuu) (ai @zbxz @zbbk)) (ai (ai @zb5n @zbut) (ai @zb4r @zb4q)))):=(ai (ai (ai (ai @zbe7 @zblv) (ai @zbe8 @zb1k)) (ai (ai @zb5v @zbld) (ai @zbbu @zbt0))) (ai (ai (ai @zbv5 @zbuu) (ai @zbxz @zbbk)) (ai (ai @zb5n @zbut) (ai @zb4r @zb4q))))
theorem zb6x:type_of% (ai (ai (ai (ai @zbuv @zbk5) (ai @zbwx @zbfm)) (ai (ai @zblw @zble) (ai @zbly @zbbl))) (ai (ai (ai @zat2 @zb4p) (ai @zbbn @zaee)) (ai (ai @zb5c @zb5q) (ai @zb5p @zb0v)))):=(ai (ai (ai (ai @zbuv @zbk5) (ai @zbwx @zbfm)) (ai (ai @zblw @zble) (ai @zbly @zbbl))) (ai (ai (ai @zat2 @zb4p) (ai @zbbn @zaee)) (ai (ai @zb5c @zb5q) (ai @zb5p @zb0v))))
theorem zb6w:type_of% (ai (ai (ai (ai @zau5 @zb4l) (ai @zb5u @zbll)) (ai (ai @zblk @zblj) (ai @zbv4 @zbxp))) (ai (ai (ai @zb5x @zb5y) (ai @zb5z @zbky)) (ai (ai @zbkx @zb1g) (ai @zb5r @zba5)))):=(ai (ai (ai (ai @zau5 @zb4l) (ai @zb5u @zbll)) (ai (ai @zblk @zblj) (ai @zbv4 @zbxp))) (ai (ai (ai @zb5x @zb5y) (ai @zb5z @zbky)) (ai (ai @zbkx @zb1g) (ai @zb5r @zba5))))
theorem zb6v:type_of% (ai (ai (ai (ai @zba6 @zb0x) (ai @zb5s @zbay)) (ai (ai @zb03 @zba2) (ai @zba4 @zb0z))) (ai (ai (ai @zba3 @zb0y) (ai @zb5t @zbln)) (ai (ai @zbuz @zbu0) (ai @zbu1 @zbki)))):=(ai (ai (ai (ai @zba6 @zb0x) (ai @zb5s @zbay)) (ai (ai @zb03 @zba2) (ai @zba4 @zb0z))) (ai (ai (ai @zba3 @zb0y) (ai @zb5t @zbln)) (ai (ai @zbuz @zbu0) (ai @zbu1 @zbki))))
theorem zb6u:type_of% (ai (ai (ai (ai @zbkh @zblr) (ai @zbf1 @zbbj)) (ai (ai @zbf0 @zbbf) (ai @zbbe @zbbg))) (ai (ai (ai @zbbi @zbbh) (ai @zbfz @zbf2)) (ai (ai @za8s @zb23) (ai @za8r @zb31)))):=(ai (ai (ai (ai @zbkh @zblr) (ai @zbf1 @zbbj)) (ai (ai @zbf0 @zbbf) (ai @zbbe @zbbg))) (ai (ai (ai @zbbi @zbbh) (ai @zbfz @zbf2)) (ai (ai @za8s @zb23) (ai @za8r @zb31))))
theorem zb6t:type_of% (ai (ai (ai (ai @zb32 @zb30) (ai @zb24 @zb3z)) (ai (ai @za9f @zb2s) (ai @zbt5 @zbt4))) (ai (ai (ai @zbel @zb02) (ai @zbrw @zbw1)) (ai (ai @zbvv @zbr8) (ai @zbsf @zbv0)))):=(ai (ai (ai (ai @zb32 @zb30) (ai @zb24 @zb3z)) (ai (ai @za9f @zb2s) (ai @zbt5 @zbt4))) (ai (ai (ai @zbel @zb02) (ai @zbrw @zbw1)) (ai (ai @zbvv @zbr8) (ai @zbsf @zbv0))))
theorem zb6s:type_of% (ai (ai (ai (ai @zbr9 @zbv1) (ai @zbse @zb1z)) (ai (ai @zbsa @zbsb) (ai @zbsd @zbsc))) (ai (ai (ai @zbvz @zbvx) (ai @zbvw @zbvy)) (ai (ai @zbr7 @zbrz) (ai @zbsw @zb33)))):=(ai (ai (ai (ai @zbr9 @zbv1) (ai @zbse @zb1z)) (ai (ai @zbsa @zbsb) (ai @zbsd @zbsc))) (ai (ai (ai @zbvz @zbvx) (ai @zbvw @zbvy)) (ai (ai @zbr7 @zbrz) (ai @zbsw @zb33))))
theorem zb6r:type_of% (ai (ai (ai (ai @za8p @za8i) (ai @zb38 @za8o)) (ai (ai @zb3e @za8j) (ai @zbe3 @za8n))) (ai (ai (ai @za8m @za8k) (ai @za8l @zb37)) (ai (ai @zb35 @zb34) (ai @zb36 @za8q)))):=(ai (ai (ai (ai @za8p @za8i) (ai @zb38 @za8o)) (ai (ai @zb3e @za8j) (ai @zbe3 @za8n))) (ai (ai (ai @za8m @za8k) (ai @za8l @zb37)) (ai (ai @zb35 @zb34) (ai @zb36 @za8q))))
theorem zb6q:type_of% (ai (ai (ai (ai @za8h @zbw7) (ai @zbvg @zbsh)) (ai (ai @zbso @zbvl) (ai @zbsi @zbvm))) (ai (ai (ai @zbsn @zb2i) (ai @zbsj @zbsk)) (ai (ai @zbsm @zbsl) (ai @zbvk @zbvi)))):=(ai (ai (ai (ai @za8h @zbw7) (ai @zbvg @zbsh)) (ai (ai @zbso @zbvl) (ai @zbsi @zbvm))) (ai (ai (ai @zbsn @zb2i) (ai @zbsj @zbsk)) (ai (ai @zbsm @zbsl) (ai @zbvk @zbvi))))
theorem zb6p:type_of% (ai (ai (ai (ai @zbvh @zbvj) (ai @zbsg @zbsp)) (ai (ai @zbu6 @zbrh) (ai @zb2c @zb1n))) (ai (ai (ai @zbrm @zb2d) (ai @zbrn @zb1m)) (ai (ai @zbai @zb2e) (ai @zb2f @zb2h)))):=(ai (ai (ai (ai @zbvh @zbvj) (ai @zbsg @zbsp)) (ai (ai @zbu6 @zbrh) (ai @zb2c @zb1n))) (ai (ai (ai @zbrm @zb2d) (ai @zbrn @zb1m)) (ai (ai @zbai @zb2e) (ai @zb2f @zb2h))))
theorem zb6o:type_of% (ai (ai (ai (ai @zb2g @zbrl) (ai @zbrj @zbri)) (ai (ai @zbrk @zb2b) (ai @zb1o @zbu5))) (ai (ai (ai @zbra @zb1a) (ai @zb19 @zbrf)) (ai (ai @zb1b @zbrg) (ai @zb18 @zbaj)))):=(ai (ai (ai (ai @zb2g @zbrl) (ai @zbrj @zbri)) (ai (ai @zbrk @zb2b) (ai @zb1o @zbu5))) (ai (ai (ai @zbra @zb1a) (ai @zb19 @zbrf)) (ai (ai @zb1b @zbrg) (ai @zb18 @zbaj))))
theorem zb6n:type_of% (ai (ai (ai (ai @zb1c @zb1d) (ai @zb1f @zb1e)) (ai (ai @zbre @zbrc) (ai @zbrb @zbrd))) (ai (ai (ai @zb09 @zb2a) (ai @zbu7 @zbro)) (ai (ai @zb1q @zb1x) (ai @zbrt @zb1r)))):=(ai (ai (ai (ai @zb1c @zb1d) (ai @zb1f @zb1e)) (ai (ai @zbre @zbrc) (ai @zbrb @zbrd))) (ai (ai (ai @zb09 @zb2a) (ai @zbu7 @zbro)) (ai (ai @zb1q @zb1x) (ai @zbrt @zb1r))))
theorem zb6m:type_of% (ai (ai (ai (ai @zbr6 @zb1w) (ai @zbah @zb1s)) (ai (ai @zb1t @zb1v) (ai @zb1u @zbrs))) (ai (ai (ai @zbrq @zbrp) (ai @zbrr @zb1p)) (ai (ai @zb1y @zbvt) (ai @zbsx @zb3h)))):=(ai (ai (ai (ai @zbr6 @zb1w) (ai @zbah @zb1s)) (ai (ai @zb1t @zb1v) (ai @zb1u @zbrs))) (ai (ai (ai @zbrq @zbrp) (ai @zbrr @zb1p)) (ai (ai @zb1y @zbvt) (ai @zbsx @zb3h))))
theorem zb6l:type_of% (ai (ai (ai (ai @zb3o @zbs3) (ai @zb3i @zbtn)) (ai (ai @zb3n @za8e) (ai @zb3j @zb3k))) (ai (ai (ai @zb3m @zb3l) (ai @zbs2 @zbs0)) (ai (ai @zbsz @zbs1) (ai @zb3g @zb3p)))):=(ai (ai (ai (ai @zb3o @zbs3) (ai @zb3i @zbtn)) (ai (ai @zb3n @za8e) (ai @zb3j @zb3k))) (ai (ai (ai @zb3m @zb3l) (ai @zbs2 @zbs0)) (ai (ai @zbsz @zbs1) (ai @zb3g @zb3p))))
theorem zb6k:type_of% (ai (ai (ai (ai @zbtg @zb4w) (ai @za78 @za4w)) (ai (ai @zb41 @za77) (ai @zb42 @za4x))) (ai (ai (ai @zbe0 @za76) (ai @za5f @za5d)) (ai (ai @za5e @zb40) (ai @zb4y @zb4x)))):=(ai (ai (ai (ai @zbtg @zb4w) (ai @za78 @za4w)) (ai (ai @zb41 @za77) (ai @zb42 @za4x))) (ai (ai (ai @zbe0 @za76) (ai @za5f @za5d)) (ai (ai @za5e @zb40) (ai @zb4y @zb4x))))
theorem zb6j:type_of% (ai (ai (ai (ai @zb4z @za79) (ai @za4v @zb39)) (ai (ai @za2l @zbey) (ai @zber @za0z))) (ai (ai (ai @zbex @za0n) (ai @zbes @zbkq)) (ai (ai @zbew @zbev) (ai @zbet @zbeu)))):=(ai (ai (ai (ai @zb4z @za79) (ai @za4v @zb39)) (ai (ai @za2l @zbey) (ai @zber @za0z))) (ai (ai (ai @zbex @za0n) (ai @zbes @zbkq)) (ai (ai @zbew @zbev) (ai @zbet @zbeu))))
theorem zb6i:type_of% (ai (ai (ai (ai @za03 @za1o) (ai @za2i @za1n)) (ai (ai @zbez @zbeq) (ai @zb2q @za9g))) (ai (ai (ai @zb2p @zbx4) (ai @zbwm @zbtu)) (ai (ai @zbs8 @zbwq) (ai @zbtv @zbwr)))):=(ai (ai (ai (ai @za03 @za1o) (ai @za2i @za1n)) (ai (ai @zbez @zbeq) (ai @zb2q @za9g))) (ai (ai (ai @zb2p @zbx4) (ai @zbwm @zbtu)) (ai (ai @zbs8 @zbwq) (ai @zbtv @zbwr))))
theorem zb6h:type_of% (ai (ai (ai (ai @zbs7 @zb3q) (ai @zbtw @zbs4)) (ai (ai @zbs6 @zbs5) (ai @zbwp @zbwn))) (ai (ai (ai @zbwo @zbtt) (ai @zbs9 @zbx3)) (ai (ai @zbws @zbta) (ai @zb3s @zb4u)))):=(ai (ai (ai (ai @zbs7 @zb3q) (ai @zbtw @zbs4)) (ai (ai @zbs6 @zbs5) (ai @zbwp @zbwn))) (ai (ai (ai @zbwo @zbtt) (ai @zbs9 @zbx3)) (ai (ai @zbws @zbta) (ai @zb3s @zb4u))))
theorem zb6g:type_of% (ai (ai (ai (ai @zbte @zb3t) (ai @zbtf @zb3y)) (ai (ai @za8a @zb3u) (ai @zb3v @zb3x))) (ai (ai (ai @zb3w @zbtd) (ai @zbtb @zbtc)) (ai (ai @zb3r @zb4v) (ai @zbx9 @zb2v)))):=(ai (ai (ai (ai @zbte @zb3t) (ai @zbtf @zb3y)) (ai (ai @za8a @zb3u) (ai @zb3v @zb3x))) (ai (ai (ai @zb3w @zbtd) (ai @zbtb @zbtc)) (ai (ai @zb3r @zb4v) (ai @zbx9 @zb2v))))
theorem zb6f:type_of% (ai (ai (ai (ai @zbwd @za87) (ai @zbt9 @zbfi)) (ai (ai @zbug @zbfb) (ai @zbwi @za80))) (ai (ai (ai @zbua @zbfh) (ai @zbwj @za8z)) (ai (ai @zbuf @zbfc) (ai @zb5d @zbkz)))):=(ai (ai (ai (ai @zbwd @za87) (ai @zbt9 @zbfi)) (ai (ai @zbug @zbfb) (ai @zbwi @za80))) (ai (ai (ai @zbua @zbfh) (ai @zbwj @za8z)) (ai (ai @zbuf @zbfc) (ai @zb5d @zbkz))))
theorem zb6e:type_of% (ai (ai (ai (ai @zbub @zbfg) (ai @zbuc @zbff)) (ai (ai @zbue @zbfd) (ai @zbud @zbfe))) (ai (ai (ai @zbwh @za81) (ai @zbwf @za83)) (ai (ai @zbwe @za86) (ai @zbwg @za82)))):=(ai (ai (ai (ai @zbub @zbfg) (ai @zbuc @zbff)) (ai (ai @zbue @zbfd) (ai @zbud @zbfe))) (ai (ai (ai @zbwh @za81) (ai @zbwf @za83)) (ai (ai @zbwe @za86) (ai @zbwg @za82))))
theorem zb6d:type_of% (ai (ai (ai (ai @zbt8 @zbfj) (ai @zbuh @zbfa)) (ai (ai @zbwc @zbx8) (ai @za88 @zb2u))) (ai (ai (ai @zb44 @zaeb) (ai @zbvu @zbtl)) (ai (ai @zbrx @zbu3) (ai @zbry @ag)))):=(ai (ai (ai (ai @zbt8 @zbfj) (ai @zbuh @zbfa)) (ai (ai @zbwc @zbx8) (ai @za88 @zb2u))) (ai (ai (ai @zb44 @zaeb) (ai @zbvu @zbtl)) (ai (ai @zbrx @zbu3) (ai @zbry @ag))))
theorem zb6c:type_of% (ai (ai (ai (ai @aa @za8w) (ai @zbh9 @ar)) (ai (ai @af @za9d) (ai @za9c @zblm))) (ai (ai (ai @zb04 @zbb5) (ai @zbtr @zbts)) (ai (ai @zb11 @f0) (ai @zbvb @zbx5)))):=(ai (ai (ai (ai @aa @za8w) (ai @zbh9 @ar)) (ai (ai @af @za9d) (ai @za9c @zblm))) (ai (ai (ai @zb04 @zbb5) (ai @zbtr @zbts)) (ai (ai @zb11 @f0) (ai @zbvb @zbx5))))
theorem zb6b:type_of% (ai (ai (ai (ai @zbwt @zby6) (ai @zbxl @zbec)) (ai (ai @zbdy @zbd4) (ai @zbeb @zbkc))) (ai (ai (ai @zbdx @zbd5) (ai @zbd6 @zbd7)) (ai (ai @zbd8 @zbd9) (ai @zbd3 @zbd2)))):=(ai (ai (ai (ai @zbwt @zby6) (ai @zbxl @zbec)) (ai (ai @zbdy @zbd4) (ai @zbeb @zbkc))) (ai (ai (ai @zbdx @zbd5) (ai @zbd6 @zbd7)) (ai (ai @zbd8 @zbd9) (ai @zbd3 @zbd2))))
theorem zb6a:type_of% (ai (ai (ai (ai @zbd1 @zbd0) (ai @zbdz @zbea)) (ai (ai @zamt @zams) (ai @zbdo @zbdn))) (ai (ai (ai @zbdp @zbw6) (ai @za84 @za9l)) (ai (ai @za8y @za85) (ai @za9k @za9m)))):=(ai (ai (ai (ai @zbd1 @zbd0) (ai @zbdz @zbea)) (ai (ai @zamt @zams) (ai @zbdo @zbdn))) (ai (ai (ai @zbdp @zbw6) (ai @za84 @za9l)) (ai (ai @za8y @za85) (ai @za9k @za9m))))
theorem zb59:type_of% (ai (ai (ai (ai @zbaa @zbw4) (ai @zbyg @zbyl)) (ai (ai @zba9 @zb4n) (ai @zb4m @zbuj))) (ai (ai (ai @zb4o @zbuk) (ai @zbui @zbv2)) (ai (ai @zbtk @zbth) (ai @za20 @zb43)))):=(ai (ai (ai (ai @zbaa @zbw4) (ai @zbyg @zbyl)) (ai (ai @zba9 @zb4n) (ai @zb4m @zbuj))) (ai (ai (ai @zb4o @zbuk) (ai @zbui @zbv2)) (ai (ai @zbtk @zbth) (ai @za20 @zb43))))
theorem zb58:type_of% (ai (ai (ai (ai @zbtm @zb13) (ai @zb12 @List.map_cons.{0,0})) (ai (ai @List.map_nil.{0,0} @List.getD_cons_zero.{0}) (ai @List.getD_cons_succ.{0} @List.getElem?_cons_zero.{0}))) (ai (ai (ai @List.getElem?_cons_succ.{0} @List.length_cons.{0}) (ai @List.length_nil.{0} @List.drop_succ_cons.{0})) (ai (ai @List.drop_zero.{0} @List.take_succ_cons.{0}) (ai @List.take_zero.{0} @List.take_nil.{0})))):=(ai (ai (ai (ai @zbtm @zb13) (ai @zb12 @List.map_cons.{0,0})) (ai (ai @List.map_nil.{0,0} @List.getD_cons_zero.{0}) (ai @List.getD_cons_succ.{0} @List.getElem?_cons_zero.{0}))) (ai (ai (ai @List.getElem?_cons_succ.{0} @List.length_cons.{0}) (ai @List.length_nil.{0} @List.drop_succ_cons.{0})) (ai (ai @List.drop_zero.{0} @List.take_succ_cons.{0}) (ai @List.take_zero.{0} @List.take_nil.{0}))))
theorem zb57:type_of% (ai (ai (ai (ai @List.take_length.{0} @List.set_cons_zero.{0}) (ai @List.set_cons_succ.{0} @Option.map_some.{0,0})) (ai (ai @Option.map_none.{0,0} @Option.bind_some.{0,0}) (ai @and_true @true_and))) (ai (ai (ai @Bool.not_true @Bool.not_false) (ai @List.all_cons.{0} @List.all_nil.{0})) (ai (ai @Bool.and_true @Bool.true_and) (ai @Bool.and_self @not_false_eq_true)))):=(ai (ai (ai (ai @List.take_length.{0} @List.set_cons_zero.{0}) (ai @List.set_cons_succ.{0} @Option.map_some.{0,0})) (ai (ai @Option.map_none.{0,0} @Option.bind_some.{0,0}) (ai @and_true @true_and))) (ai (ai (ai @Bool.not_true @Bool.not_false) (ai @List.all_cons.{0} @List.all_nil.{0})) (ai (ai @Bool.and_true @Bool.true_and) (ai @Bool.and_self @not_false_eq_true))))
theorem zb56:type_of% (ai (ai (ai (ai @Nat.zero_add @Nat.le_refl) (ai @Nat.add_zero @Nat.zero_mul)) (ai (ai @Nat.mul_one @Nat.one_mul) (ai @Int.toNat_zero @Int.toNat_natCast))) (ai (ai (ai @List.nil_append.{0} @List.cons_append.{0}) (ai @List.append_nil.{0} @cond_true.{1})) (ai (ai @cond_false.{1} @if_true.{1}) (ai @if_false.{1} @List.length_map.{0,0})))):=(ai (ai (ai (ai @Nat.zero_add @Nat.le_refl) (ai @Nat.add_zero @Nat.zero_mul)) (ai (ai @Nat.mul_one @Nat.one_mul) (ai @Int.toNat_zero @Int.toNat_natCast))) (ai (ai (ai @List.nil_append.{0} @List.cons_append.{0}) (ai @List.append_nil.{0} @cond_true.{1})) (ai (ai @cond_false.{1} @if_true.{1}) (ai @if_false.{1} @List.length_map.{0,0}))))
theorem zb55:type_of% (ai (ai (ai @List.length_append.{0} @not_true_eq_false) (ai @decide_eq_true_eq (ai @or_true @true_or))) (ai (ai @or_false (ai @false_or @ne_eq.{1})) (ai @eq_self.{1} (ai @bne_self_eq_false.{0} @beq_self_eq_true.{0})))):=(ai (ai (ai @List.length_append.{0} @not_true_eq_false) (ai @decide_eq_true_eq (ai @or_true @true_or))) (ai (ai @or_false (ai @false_or @ne_eq.{1})) (ai @eq_self.{1} (ai @bne_self_eq_false.{0} @beq_self_eq_true.{0}))))
theorem TT:type_of% (ai (ai (ai (ai (ai @TT0 @TT1) (ai @TT2 (ai @TT3 @TT4))) (ai (ai @TT5 @TT6) (ai @TT7 (ai @TT8 @TT9)))) (ai (ai (ai @zb6z @zb6y) (ai @zb6x (ai @zb6w @zb6v))) (ai (ai @zb6u @zb6t) (ai @zb6s (ai @zb6r @zb6q))))) (ai (ai (ai (ai @zb6p @zb6o) (ai @zb6n (ai @zb6m @zb6l))) (ai (ai @zb6k @zb6j) (ai @zb6i (ai @zb6h @zb6g)))) (ai (ai (ai @zb6f @zb6e) (ai @zb6d (ai @zb6c @zb6b))) (ai (ai @zb6a (ai @zb59 @zb58)) (ai @zb57 (ai @zb56 @zb55)))))):=(ai (ai (ai (ai (ai @TT0 @TT1) (ai @TT2 (ai @TT3 @TT4))) (ai (ai @TT5 @TT6) (ai @TT7 (ai @TT8 @TT9)))) (ai (ai (ai @zb6z @zb6y) (ai @zb6x (ai @zb6w @zb6v))) (ai (ai @zb6u @zb6t) (ai @zb6s (ai @zb6r @zb6q))))) (ai (ai (ai (ai @zb6p @zb6o) (ai @zb6n (ai @zb6m @zb6l))) (ai (ai @zb6k @zb6j) (ai @zb6i (ai @zb6h @zb6g)))) (ai (ai (ai @zb6f @zb6e) (ai @zb6d (ai @zb6c @zb6b))) (ai (ai @zb6a (ai @zb59 @zb58)) (ai @zb57 (ai @zb56 @zb55))))))
end Go.Proofs.Ytgkkienmocpnbaa.Sh
