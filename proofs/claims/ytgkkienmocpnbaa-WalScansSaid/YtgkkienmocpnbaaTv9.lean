import Derived.Test.YtgkkienmocpnbaaTv8
set_option linter.unusedVariables false
set_option linter.unusedSimpArgs false
/- The tree level: evaluation, step by step: printed by a program of ours. -/
namespace Go.Proofs.Ytgkkienmocpnbaa.Sh
open Go Go.RowKit
def pK (o:Option TV) (d:Option Nat) (K:ak) (fr:TF) (tk:TK) (τ:TH):Prop:=match o with | some v => K (dh fr d v) tk τ | none => False
def zbjc (lv:List Nat) (tk:TK) (τ:TH) (fr':TF) (tk':TK) (τ':TH) (K:ak):Prop:=if ltL τ.next tk.length (lv.map fun t => lkp fr' t) = true then K (sel lv fr') (tk'.take tk.length) (τ'.cut τ.next) else K (sel lv fr') tk' τ'
def fzK (o:Option TV) (τ:TH) (K:TV → TH → Prop) (τ':TH):Prop:=match o with | some u => K u (τ'.cut τ.next) | none => False
def rtK (o:Option TV) (τ:TH) (K:TV → TH → Prop) (τ':TH):Prop:=match o with | some v => (if v.canT.under τ.next then K v.canT (τ'.cut τ.next) else v.canT.under τ'.next = true ∧ K v.canT τ') | none => False
def pl (l:List ap):List (ap × List Nat):=l.map fun x => (x,[])
def tLD (Γ:FuncId → Option TG):List ap → ak → ak
 | [],K => K
 | ⟨⟨d,i,none⟩,m⟩ :: r,K => fun fr tk τ => tG Γ true i m d (tLD Γ r K) fr tk τ
 | ⟨⟨d,i,some (t,b)⟩,m⟩ :: r,K => fun fr tk τ => gdK Γ true (lkp fr t) b i m d (tLD Γ r K) fr tk τ
section
variable (Γ:FuncId → Option TG) (dr:Bool) (d:Option Nat) (K:ak) (fr fr':TF) (tk tk':TK) (τ τ':TH) (Q:TEx → ak) (a b:TC) (lv:List Nat) (r:List ap) (m:Nat)
theorem zbks:∀ (l:List ap) (n:Nat) (told:List (Nat × Ins)) (K:ak),tD Γ n (pl l) K told = tLD Γ l K
 | [],n,told,K => rfl
 | ⟨⟨d,i,g⟩,m⟩ :: r,n,told,K => by
  funext fr tk τ
  cases g with
  | none =>
   show tG Γ true i m d (pnK _ n fr τ told [] (tD Γ (n + 1) (pl r) K)) fr tk τ = tG Γ true i m d (tLD Γ r K) fr tk τ
   have q:pnK ⟨⟨d,i,none⟩,m⟩ n fr τ told [] (tD Γ (n + 1) (pl r) K) = tLD Γ r K:=by
    funext fr' tk' τ'
    unfold pnK
    simp [zbks r]
   rw [q]
  | some tb =>
   obtain ⟨t,b⟩:=tb
   show gdK Γ true (lkp fr t) b i m d (pnK _ n fr τ told [] (tD Γ (n + 1) (pl r) K)) fr tk τ = gdK Γ true (lkp fr t) b i m d (tLD Γ r K) fr tk τ
   have q:pnK ⟨⟨d,i,some (t,b)⟩,m⟩ n fr τ told [] (tD Γ (n + 1) (pl r) K) = tLD Γ r K:=by
    funext fr' tk' τ'
    unfold pnK
    simp [zbks r]
   rw [q]
def tSp (Γ:FuncId → Option TG) (o:Option ap) (K:ak):ak:=fun fr tk τ => match o with
 | some ⟨⟨d,i,none⟩,m⟩ => tG Γ true i m d K fr tk τ
 | some ⟨⟨d,i,some (t,b)⟩,m⟩ => gdK Γ true (lkp fr t) b i m d K fr tk τ
 | none => False
def tTp (Γ:FuncId → Option TG) (lv:List Nat) (l:List ap):DTr Nat → ak → ak
 | .nil,K => K
 | .cons k r,K => tSp Γ l[k]? (tTp Γ lv l r K)
 | .alt k r j q,K => fun fr tk τ => tSp Γ l[k]? (tTp Γ lv l r fun fr1 tk1 τ1 => tSp Γ l[j]? (tTp Γ lv l q fun fr2 tk2 τ2 => (sel lv fr1 = sel lv fr2 ∧ tk1 = tk2 ∧ τ1 = τ2) ∧ K fr1 tk1 τ1) fr tk τ) fr tk τ
theorem zbkp (l:List ap) (k:Nat) (told:List (Nat × Ins)) (K:ak) (K':List (Nat × Ins) → ak) (hK:∀ t,K' t = K):tS Γ (pl l) (pl l)[k]? k told K' = tSp Γ l[k]? K:=by
 have e:(pl l)[k]? = (l[k]?).map fun x => (x,[]):=by unfold pl; rw [List.getElem?_map]
 rw [e]
 generalize pl l = L
 funext fr tk τ
 cases l[k]? with
 | none => rfl
 | some x =>
  obtain ⟨⟨d,i,g⟩,m⟩:=x
  cases g with
  | none =>
   show tG Γ true i m d (pnT L _ k fr τ told [] K') fr tk τ = tG Γ true i m d K fr tk τ
   have q:pnT L ⟨⟨d,i,none⟩,m⟩ k fr τ told [] K' = K:=by
    funext fr' tk' τ'
    unfold pnT
    simp [hK]
   rw [q]
  | some tb =>
   obtain ⟨t,b⟩:=tb
   show gdK Γ true (lkp fr t) b i m d (pnT L _ k fr τ told [] K') fr tk τ = gdK Γ true (lkp fr t) b i m d K fr tk τ
   have q:pnT L ⟨⟨d,i,some (t,b)⟩,m⟩ k fr τ told [] K' = K:=by
    funext fr' tk' τ'
    unfold pnT
    simp [hK]
   rw [q]
theorem zbfu (l:List ap):∀ (t:DTr Nat) (K:ak) (K':List (Nat × Ins) → ak) (hK:∀ t,K' t = K) (told:List (Nat × Ins)),tT Γ lv (pl l) t K' told = tTp Γ lv l t K
 | .nil,K,K',hK,told => hK told
 | .cons k r,K,K',hK,told => zbkp Γ l k told _ _ fun t => zbfu l r K K' hK t
 | .alt k r j q,K,K',hK,told => by
  funext fr tk τ
  show tS Γ (pl l) (pl l)[k]? k told (tT Γ lv (pl l) r _) fr tk τ = tSp Γ l[k]? (tTp Γ lv l r _) fr tk τ
  refine congrFun (congrFun (congrFun (zbkp Γ l k told _ _ fun t => zbfu l r _ _ (fun t1 => ?_) t) fr) tk) τ
  funext fr1 tk1 τ1
  refine congrFun (congrFun (congrFun (zbkp Γ l j told _ _ fun t => zbfu l q _ _ (fun t2 => ?_) t) fr) tk) τ
  funext fr2 tk2 τ2
  rw [hK]
def zbmo (Γ:FuncId → Option TG) (l:List ap):List (DTr Nat × List Nat) → ak → ak
 | [],K => K
 | (t,lv) :: r,K => tTp Γ lv l t fun fr' tk' τ' => zbmo Γ l r K (sel lv fr') tk' τ'
theorem zbht (l:List ap):∀ (t:List (DTr Nat × List Nat)) (K:ak) (told:List (Nat × Ins)),tSg Γ (pl l) t K told = zbmo Γ l t K
 | [],K,told => rfl
 | (t,lv) :: r,K,told => zbfu Γ lv l t _ _ (fun t' => by funext fr' tk' τ'; rw [zbht l r K t']) told
theorem zbjf:tW Γ .skip Q fr tk τ = Q .normal fr tk τ:=zbkk
theorem zbjg (id:Nat):tW Γ (.exit id) Q fr tk τ = Q (.exit id) fr tk τ:=zbkm
theorem zbpo:tW Γ (.ret lv) Q fr tk τ = Q .ret (sel lv fr) tk τ:=zbod
theorem zbpp:tW Γ (.ops r) Q fr tk τ = tL Γ r (Q .normal) fr tk τ:=zboe
theorem zb8r (t:List (DTr Nat × List Nat)):tW Γ (.drawT (pl r) t) Q fr tk τ = zbmo Γ r t (Q .normal) fr tk τ:=by rw [zbfr,zbht]
theorem zcdf:zbmo Γ r [] K = K:=rfl
theorem zbyn (t:DTr Nat) (q:List (DTr Nat × List Nat)):zbmo Γ r ((t,lv) :: q) K fr tk τ = tTp Γ lv r t (fun fr1 tk1 τ1 => zbmo Γ r q K (sel lv fr1) tk1 τ1) fr tk τ:=rfl
theorem za9w:tTp Γ lv r .nil K = K:=rfl
theorem zcdi (k:Nat) (t:DTr Nat):tTp Γ lv r (.cons k t) K = tSp Γ r[k]? (tTp Γ lv r t K):=rfl
theorem za9x (k j:Nat) (t q:DTr Nat):tTp Γ lv r (.alt k t j q) K fr tk τ = tSp Γ r[k]? (tTp Γ lv r t fun fr1 tk1 τ1 => tSp Γ r[j]? (tTp Γ lv r q fun fr2 tk2 τ2 => (sel lv fr1 = sel lv fr2 ∧ tk1 = tk2 ∧ τ1 = τ2) ∧ K fr1 tk1 τ1) fr tk τ) fr tk τ:=rfl
theorem zcdg (i:I):tSp Γ (some ⟨⟨d,i,none⟩,m⟩) K fr tk τ = tG Γ true i m d K fr tk τ:=rfl
theorem zcdh (i:I) (t:Nat) (b:Bool):tSp Γ (some ⟨⟨d,i,some (t,b)⟩,m⟩) K fr tk τ = gdK Γ true (lkp fr t) b i m d K fr tk τ:=rfl
theorem zbek:tW Γ (.draw (pl r)) Q fr tk τ = tLD Γ r (Q .normal) fr tk τ:=by rw [zbkn,zbks]
theorem zbpn:tW Γ (.seq a b) Q fr tk τ = tW Γ a (za9g (tW Γ b Q) Q) fr tk τ:=zboc
theorem zbjh (c:Operand):tW Γ (.cond c a b) Q fr tk τ = cT Γ (tO fr c) a b Q fr tk τ:=zbko
theorem zbem (id:Nat):tW Γ (.block id lv a) Q fr tk τ = tW Γ a (za8n id lv tk τ Q) fr tk τ:=zbft
theorem zbel:tW Γ (.clean lv a) Q fr tk τ = tW Γ a Q (sel lv fr) tk τ:=zbfs
theorem zbd1 (c:Bool):cT Γ (.bool c) a b Q fr tk τ = if c = true then tW Γ a Q fr tk τ else tW Γ b Q fr tk τ:=rfl
theorem za9e (n:ak):za9g n Q .normal = n:=rfl
theorem za9d (n:ak):za9g n Q .ret = Q .ret:=rfl
theorem za9f (n:ak) (id:Nat):za9g n Q (.exit id) = Q (.exit id):=rfl
theorem zb81 (id:Nat):za8n id lv tk τ Q .normal fr' tk' τ' = zbjc lv tk τ fr' tk' τ' (Q .normal):=by unfold za8n zbjc lm; simp only [true_or,if_true]; split <;> rfl
theorem zb80 (id:Nat):za8n id lv tk τ Q (.exit id) fr' tk' τ' = zbjc lv tk τ fr' tk' τ' (Q .normal):=by unfold za8n zbjc lm; simp only [or_true,if_true]; split <;> rfl
theorem zbvw (id j:Nat) (h:(j = id) = False):za8n id lv tk τ Q (.exit j) = Q (.exit j):=by funext fr tk τ; unfold za8n; simp [h]
theorem zb82 (id:Nat):za8n id lv tk τ Q .ret = Q .ret:=by funext fr tk τ; unfold za8n; simp
theorem zbuu (Q:TEx → ak):zbcg Γ lv a tk τ Q .normal fr' tk' τ' = zbjc lv tk τ fr' tk' τ' (tW Γ (.loop lv a) Q):=by simp only [zbcg,zbjc,lm]; split <;> rfl
theorem zbce (Q:TEx → ak):zbcg Γ lv a tk τ Q .ret = Q .ret:=rfl
theorem zbcf (Q:TEx → ak) (id:Nat):zbcg Γ lv a tk τ Q (.exit id) = Q (.exit id):=rfl
theorem zbd7:zbjc lv tk τ fr' tk' τ' K = if ltL τ.next tk.length (lv.map fun t => lkp fr' t) = true then K (sel lv fr') (tk'.take tk.length) (τ'.cut τ.next) else K (sel lv fr') tk' τ':=rfl
theorem zbh2 (rs:List R) (K:TV → TH → Prop):zbf1 rs false τ K .ret fr tk τ' = rtK (r8 rs fr τ') τ K τ':=by unfold zbf1 rtK; cases r8 rs fr τ' <;> simp
theorem zbh3 (rs:List R) (K:TV → TH → Prop):zbf1 rs false τ K .normal fr tk τ' = rtK (r8 rs fr τ') τ K τ':=by unfold zbf1 rtK; cases r8 rs fr τ' <;> simp
theorem zbaj (rs:List R) (K:TV → TH → Prop):zbf1 rs true τ K .ret fr tk τ' = fzK ((r8 rs fr τ').bind (tfz τ' τ.next)) τ K τ':=by unfold zbf1 fzK; cases h:r8 rs fr τ' with | none => simp | some v => simp only [Option.bind_some,or_true,true_and,if_true]; cases tfz τ' τ.next v <;> rfl
theorem zbak (rs:List R) (K:TV → TH → Prop):zbf1 rs true τ K .normal fr tk τ' = fzK ((r8 rs fr τ').bind (tfz τ' τ.next)) τ K τ':=by unfold zbf1 fzK; cases h:r8 rs fr τ' with | none => simp | some v => simp only [Option.bind_some,true_or,true_and,if_true]; cases tfz τ' τ.next v <;> rfl
theorem zca0 (v:TV) (K:TV → TH → Prop):fzK (some v) τ K τ' = K v (τ'.cut τ.next):=rfl
theorem zccf (v:TV) (K:TV → TH → Prop):rtK (some v) τ K τ' = if v.canT.under τ.next then K v.canT (τ'.cut τ.next) else v.canT.under τ'.next = true ∧ K v.canT τ':=rfl
theorem zbg6 (r:R):r8 [r] fr τ = uo fr τ r:=rfl
theorem zbg7:r8 [] fr τ = some (.tup []):=rfl
theorem zbg5 (r1 r2:R) (l:List R):r8 (r1 :: r2 :: l) fr τ = (o6 fr τ (r1 :: r2 :: l)).map .tup:=rfl
def zbpf (a:Option TV) (b:Option (List TV)):Option (List TV):=match a,b with | some x,some y => some (x :: y) | _,_ => none
theorem zb4n:o6 fr τ [] = some []:=rfl
theorem zb55 (r:R) (l:List R):o6 fr τ (r :: l) = zbpf (uo fr τ r) (o6 fr τ l):=rfl
theorem zbzy (x:TV) (y:List TV):zbpf (some x) (some y) = some (x :: y):=rfl
def ld1 (τ:TH):TV → Option TV | .ptr id off => zbfd τ id off | .rptr cs off => cs[off]? | _ => none
def ldN (n:Nat) (τ:TH):TV → Option TV | .ptr id off => if n = 0 then none else (zae2 τ id off n).map .agg | .rptr cs off => if off + n ≤ cs.length then some (.agg ((cs.drop off).take n)) else none | _ => none
def rd1 (τ:TH):TV → Option TV | .ptr id off => zbfd τ id off | _ => none
def rdN (n:Nat) (τ:TH):TV → Option TV | .ptr id off => if n = 0 then none else (zae2 τ id off n).map .agg | _ => none
theorem zb29 (t:Nat):uo fr τ (.tmp t) = some (lkp fr t):=rfl
theorem zb0x (t:Nat):uo fr τ (.cell1 t) = rd1 τ (lkp fr t):=rfl
theorem zb0y (t n:Nat):uo fr τ (.cellN t n) = rdN n τ (lkp fr t):=rfl
theorem zba5 (id off:Nat):rd1 τ (.ptr id off) = zbfd τ id off:=rfl
theorem zba4 (n id off:Nat):rdN n τ (.ptr id off) = if n = 0 then none else (zae2 τ id off n).map .agg:=rfl
theorem zbhv:tL Γ [] K = K:=rfl
theorem za91 (i:I):tL Γ (⟨⟨d,i,none⟩,m⟩ :: r) K fr tk τ = tG Γ false i m d (tL Γ r K) fr tk τ:=rfl
theorem za90 (i:I) (t:Nat) (b:Bool):tL Γ (⟨⟨d,i,some (t,b)⟩,m⟩ :: r) K fr tk τ = gdK Γ false (lkp fr t) b i m d (tL Γ r K) fr tk τ:=rfl
theorem za93:tLD Γ [] K = K:=rfl
theorem zcdb (i:I):tLD Γ (⟨⟨d,i,none⟩,m⟩ :: r) K fr tk τ = tG Γ true i m d (tLD Γ r K) fr tk τ:=rfl
theorem zcdc (i:I) (t:Nat) (b:Bool):tLD Γ (⟨⟨d,i,some (t,b)⟩,m⟩ :: r) K fr tk τ = gdK Γ true (lkp fr t) b i m d (tLD Γ r K) fr tk τ:=rfl
theorem zbo8 (i:I):gdK Γ dr (.bool true) true i m d K fr tk τ = tG Γ dr i m d K fr tk τ:=by simp [gdK]
theorem zbpb (i:I):gdK Γ dr (.bool false) false i m d K fr tk τ = tG Γ dr i m d K fr tk τ:=by simp [gdK]
theorem zbo9 (i:I):gdK Γ dr (.bool true) false i m d K fr tk τ = K (dh fr d (.tup [])) tk τ:=by simp [gdK]
theorem zbpa (i:I):gdK Γ dr (.bool false) true i m d K fr tk τ = K (dh fr d (.tup [])) tk τ:=by simp [gdK]
theorem zbi5 (i:I) (b:Bool):gdK Γ dr (.tup []) b i m d K fr tk τ = K (dh fr d (.tup [])) tk τ:=rfl
theorem zbjt (f:FuncId) (args:List Operand):tG Γ dr (.call f args) 0 d K fr tk τ = d9 Γ dr f (args.map fun a => (tO fr a).canT) d K fr tk τ:=rfl
theorem zbe4 (f:FuncId) (args:List Operand):tG Γ dr (.call f args) 1 d K fr tk τ = zbrx Γ f (z0 (tfz τ 0) (args.map (tO fr))) d K fr tk τ:=rfl
theorem zcc2 (f:TV → Option TV):z0 f [] = some []:=rfl
def zbvv (a:Option TV) (b:Option (List TV)):Option (List TV):=match a,b with | some x,some y => some (x :: y) | _,_ => none
theorem zbyq (f:TV → Option TV) (v:TV) (l:List TV):z0 f (v :: l) = zbvv (f v) (z0 f l):=rfl
theorem zbzh (v:TV) (l:List TV):zbvv (some v) (some l) = some (v :: l):=rfl
theorem za9m (n0:Nat) (cs:List TV):tfz τ n0 (.agg cs) = (z0 (r7 τ n0 2) cs).map .agg:=rfl
theorem zcc7 (n0:Nat) (b:Bool):tfz τ n0 (.bool b) = some (TV.bool b):=rfl
theorem zbyr (n0:Nat) (b:Bool):r7 τ n0 2 (.bool b) = some (TV.bool b):=rfl
theorem za9l (n0:Nat) (k:IntKind) (n:Int):tfz τ n0 (.int k n) = some (TV.int k n):=rfl
theorem zcc3 (n0:Nat) (k:IntKind) (n:Int):r7 τ n0 2 (.int k n) = some (TV.int k n):=rfl
theorem za9h (n0:Nat) (s:ByteArray):tfz τ n0 (.str s) = some (TV.str s):=rfl
theorem zcc6 (n0:Nat) (s:ByteArray):r7 τ n0 2 (.str s) = some (TV.str s):=rfl
theorem zbg9 (n0:Nat) (l:List TV):tfz τ n0 (.sl l) = some (TV.sl l):=rfl
theorem za9n (n0:Nat) (l:List TV):r7 τ n0 2 (.sl l) = some (TV.sl l):=rfl
theorem za9k (n0:Nat) (k:Nat) (l:List TV):tfz τ n0 (.sla k l) = some (TV.sl l):=rfl
theorem zcc4 (n0:Nat) (k:Nat) (l:List TV):r7 τ n0 2 (.sla k l) = some (TV.sl l):=rfl
theorem za9i (n0:Nat):tfz τ n0 .slz = some (.sl []):=rfl
theorem zcc5 (n0:Nat):r7 τ n0 2 .slz = some (.sl []):=rfl
theorem za9j (n0 id off n sz:Nat):tfz τ n0 (.slm id off n sz) = r7 τ n0 2 (.slm id off n sz):=rfl
theorem zbe3 (f:FuncId) (args:List Operand):tG Γ dr (.callW f args) m d K fr tk τ = d9 Γ false f (args.map fun a => (tO fr a).canT) d K fr tk τ:=rfl
def cvK (Γ:FuncId → Option TG) (dr:Bool) (v:TV) (args:List TV) (d:Option Nat) (K:ak) (fr:TF) (tk:TK) (τ:TH):Prop:=match v with | .func f a b => d9 Γ dr f (a ++ args ++ b) d K fr tk τ | _ => False
theorem zbe2 (x:Operand) (args:List Operand):tG Γ dr (.callv x args) m d K fr tk τ = cvK Γ dr (tO fr x) (args.map fun a => (tO fr a).canT) d K fr tk τ:=by unfold cvK; rfl
theorem zb9c (x:Operand) (args:List Operand):tG Γ dr (.callvW x args) m d K fr tk τ = cvK Γ false (tO fr x) (args.map fun a => (tO fr a).canT) d K fr tk τ:=by unfold cvK; rfl
theorem zbdm (f:FuncId) (p q args:List TV):cvK Γ dr (.func f p q) args d K fr tk τ = d9 Γ dr f (p ++ args ++ q) d K fr tk τ:=rfl
theorem zbbk (v:TV):pK (some v) d K fr tk τ = K (dh fr d v) tk τ:=rfl
theorem zbii (c:Prop) [Decidable c] (v:TV):pK (if c then some v else none) d K fr tk τ = (c ∧ K (dh fr d v) tk τ):=by unfold pK; by_cases h:c <;> simp [h]
theorem zcba (v:TV):opK (some (v,tk',τ')) d K fr = K (dh fr d v) tk' τ':=rfl
theorem zbux (c:Prop) [Decidable c] (x:TV × TK × TH):opK (if c then some x else none) d K fr = (c ∧ opK (some x) d K fr):=by unfold opK; by_cases h:c <;> simp [h]
theorem zbps (x:Operand):tG Γ dr (.mov x) 0 d K fr tk τ = K (dh fr d (tO fr x)) tk τ:=rfl
theorem zbjo (x:Operand):tG Γ dr (.mov x) 3 d K fr tk τ = K (dh fr d (tO fr x).canT) tk τ:=rfl
def zbb0 (v:TV) (d:Option Nat) (K:ak) (fr:TF) (tk:TK) (τ:TH):Prop:=match v with | .slz => K (dh fr d (.sla tk.length [])) (tk ++ [some (0,0)]) τ | _ => False
theorem zbjp (x:Operand):tG Γ dr (.mov x) 1 d K fr tk τ = zbb0 (tO fr x) d K fr tk τ:=by unfold zbb0; simp only [tG,tOp,if_true]; cases tO fr x <;> rfl
theorem zcaw:zbb0 .slz d K fr tk τ = K (dh fr d (.sla tk.length [])) (tk ++ [some (0,0)]) τ:=rfl
def zbk7 (c a b:TV):Option TV:=match c with | .bool t => some (bif t then a else b) | _ => none
theorem fe (o:Option TV):opK (o.map fun v => (v,tk,τ)) d K fr = pK o d K fr tk τ:=by cases o <;> rfl
theorem zbjn (c a b:Operand):tG Γ dr (.pick c a b) m d K fr tk τ = pK (zbk7 (tO fr c) (tO fr a) (tO fr b)) d K fr tk τ:=(fe d K fr tk τ (tP (.pick c a b) fr τ)).trans (by unfold zbk7; rfl)
theorem zbbi (t:Bool) (v w:TV):zbk7 (.bool t) v w = some (bif t then v else w):=rfl
theorem zbez (x:Operand):tG Γ dr (.load1 x) 0 d K fr tk τ = pK (ld1 τ (tO fr x)) d K fr tk τ:=(fe d K fr tk τ (tP (.load1 x) fr τ)).trans (by unfold ld1; rfl)
theorem zbct (id off:Nat):ld1 τ (.ptr id off) = zbfd τ id off:=rfl
theorem zcae (cs:List TV) (off:Nat):ld1 τ (.rptr cs off) = cs[off]?:=rfl
theorem zbex (n:Nat) (x:Operand):tG Γ dr (.loadN n x) m d K fr tk τ = pK (ldN n τ (tO fr x)) d K fr tk τ:=(fe d K fr tk τ (tP (.loadN n x) fr τ)).trans (by unfold ldN; rfl)
theorem zbcs (n id off:Nat):ldN n τ (.ptr id off) = if n = 0 then none else (zae2 τ id off n).map .agg:=rfl
theorem zcaf (n:Nat) (cs:List TV) (off:Nat):ldN n τ (.rptr cs off) = if off + n ≤ cs.length then some (.agg ((cs.drop off).take n)) else none:=rfl
def zbox:TV → Option TV | .ptr id off => some (.ptr id off) | .rptr cs off => some (.rptr cs off) | .func f a b => some (.func f a b) | _ => none
theorem zb9g (x:Operand):tG Γ dr (.nilchk x) m d K fr tk τ = pK (zbox (tO fr x)) d K fr tk τ:=(fe d K fr tk τ (tP (.nilchk x) fr τ)).trans (by unfold zbox; rfl)
theorem zcav (id off:Nat):zbox (.ptr id off) = some (.ptr id off):=rfl
theorem zbxk (cs:List TV) (off:Nat):zbox (.rptr cs off) = some (.rptr cs off):=rfl
theorem zbxj (f:FuncId) (p q:List TV):zbox (.func f p q) = some (.func f p q):=rfl
theorem zbpy (op:BinOp) (x y:Operand):tG Γ dr (.bin op x y) m d K fr tk τ = pK (yd op (tO fr x) (tO fr y)) d K fr tk τ:=(fe d K fr tk τ (tP (.bin op x y) fr τ)).trans (by rfl)
def eqb (neg:Bool) (p q:TV):Option TV:=match p,q with | .bool p,.bool q => some (.bool (bif neg then p != q else p == q)) | _,_ => none
theorem zbpw (neg:Bool) (x y:Operand):tG Γ dr (.eqB neg x y) m d K fr tk τ = pK (eqb neg (tO fr x) (tO fr y)) d K fr tk τ:=(fe d K fr tk τ (tP (.eqB neg x y) fr τ)).trans (by unfold eqb; rfl)
theorem zbja (neg p q:Bool):eqb neg (.bool p) (.bool q) = some (.bool (bif neg then p != q else p == q)):=rfl
theorem zbe0 (k:NK) (neg:Bool) (x:Operand):tG Γ dr (.isNil k neg x) m d K fr tk τ = pK ((zajr k (tO fr x)).map fun b => .bool (bif neg then !b else b)) d K fr tk τ:=(fe d K fr tk τ (tP (.isNil k neg x) fr τ)).trans (by rfl)
theorem zb25 :zajr .p (.nilP) = some true:=rfl
theorem zb0u (i o:Nat):zajr .p (.ptr i o) = some false:=rfl
theorem zb26 (c:List TV) (o:Nat):zajr .p (.rptr c o) = some false:=rfl
theorem zb0w :zajr .s (.slz) = some true:=rfl
theorem zbys (v:TV) (l:List TV):zajr .s (.sl (v :: l)) = some false:=rfl
theorem zb0v (i o n s:Nat):zajr .s (.slm i o n s) = some false:=rfl
theorem zb24 :zajr .m (.nilM) = some true:=rfl
theorem zb23 :zajr .f (.nilF) = some true:=rfl
theorem zb22 (f:FuncId) (p q:List TV):zajr .f (.func f p q) = some false:=rfl
theorem zcew (op:UnOp) (x:Operand):tG Γ dr (.un op x) m d K fr tk τ = pK (tun op (tO fr x)) d K fr tk τ:=(fe d K fr tk τ (tP (.un op x) fr τ)).trans (by rfl)
def cnv (k:IntKind):TV → Option TV | .int _ n => some (.int k (k.wrap n)) | _ => none
theorem zbjs (k:IntKind) (x:Operand):tG Γ dr (.conv k x) m d K fr tk τ = pK (cnv k (tO fr x)) d K fr tk τ:=(fe d K fr tk τ (tP (.conv k x) fr τ)).trans (by unfold cnv; rfl)
theorem zbdp (k j:IntKind) (n:Int):cnv k (.int j n) = some (.int k (k.wrap n)):=rfl
def zbvn:TV → Option TV | .str s => some (.str s) | _ => none
theorem zbe1 (x:Operand):tG Γ dr (.convS x) m d K fr tk τ = pK (zbvn (tO fr x)) d K fr tk τ:=(fe d K fr tk τ (tP (.convS x) fr τ)).trans (by unfold zbvn; rfl)
theorem zb9v (s:ByteArray):zbvn (.str s) = some (.str s):=rfl
def fad (off:Nat):TV → Option TV | .ptr id o => some (.ptr id (o + off)) | .rptr cs o => some (.rptr cs (o + off)) | _ => none
theorem zb1k (off:Nat) (x:Operand):tG Γ dr (.fieldAddr off x) 0 d K fr tk τ = pK (fad off (tO fr x)) d K fr tk τ:=(fe d K fr tk τ (tP (.fieldAddr off x) fr τ)).trans (by unfold fad; rfl)
def lfO (b:Option Ob) (id o off:Nat) (d:Option Nat) (K:ak) (fr:TF) (tk:TK) (τ:TH):Prop:=match b with
 | some b => (τ.lock ≤ id ∧ b.cs ≠ []) ∧ K (dh (zbfc id τ.next fr) d (.ptr τ.next (o + off))) tk ((τ.put id ⟨b.t,[]⟩).push b)
 | none => False
def lfK (off:Nat) (v:TV) (d:Option Nat) (K:ak) (fr:TF) (tk:TK) (τ:TH):Prop:=match v with | .ptr id o => lfO (τ.at id) id o off d K fr tk τ | _ => False
theorem zbcn (off id o:Nat):lfK off (.ptr id o) d K fr tk τ = lfO (τ.at id) id o off d K fr tk τ:=rfl
theorem zcaj (id o off:Nat) (t:TypeId) (cs:List TV):lfO (some ⟨t,cs⟩) id o off d K fr tk τ = ((τ.lock ≤ id ∧ cs ≠ []) ∧ K (dh (zbfc id τ.next fr) d (.ptr τ.next (o + off))) tk ((τ.put id ⟨t,[]⟩).push ⟨t,cs⟩)):=rfl
theorem zcb7 (i n:Nat):zbfc i n [] = []:=rfl
theorem zbx8 (i n k:Nat) (v:TV) (l:TF):zbfc i n ((k,v) :: l) = (k,ren i n v) :: zbfc i n l:=rfl
theorem zbas (i n j o:Nat):ren i n (.ptr j o) = if j = i then .ptr n o else .ptr j o:=rfl
theorem zbx9 (i n:Nat) :ren i n (TV.undef ) = TV.undef :=rfl
theorem zcb8 (i n:Nat) (b:Bool):ren i n (TV.bool b) = TV.bool b:=rfl
theorem zbat (i n:Nat) (k:IntKind) (x:Int):ren i n (TV.int k x) = TV.int k x:=rfl
theorem zbam (i n:Nat) (s:ByteArray):ren i n (TV.str s) = TV.str s:=rfl
theorem zccd (i n:Nat) :ren i n (TV.nilP ) = TV.nilP :=rfl
theorem zcce (i n:Nat) (c:List TV) (o:Nat):ren i n (TV.rptr c o) = TV.rptr c o:=rfl
theorem zban (i n:Nat) :ren i n (TV.slz ) = TV.slz :=rfl
theorem zbh5 (i n:Nat) (l:List TV):ren i n (TV.sl l) = TV.sl l:=rfl
theorem zbar (i n:Nat) (k:Nat) (l:List TV):ren i n (TV.sla k l) = TV.sla k l:=rfl
theorem zbaq (i n:Nat) (k:Nat) (t:TypeId):ren i n (TV.slb k t) = TV.slb k t:=rfl
theorem zbao (i n:Nat) (t:TypeId) (l:List TV):ren i n (TV.slo t l) = TV.slo t l:=rfl
theorem zbap (i n:Nat) (j o n0 s:Nat):ren i n (TV.slm j o n0 s) = TV.slm j o n0 s:=rfl
theorem zccc (i n:Nat) :ren i n (TV.nilM ) = TV.nilM :=rfl
theorem zcca (i n:Nat) :ren i n (TV.nilF ) = TV.nilF :=rfl
theorem zcb9 (i n:Nat) (f:FuncId) (p q:List TV):ren i n (TV.func f p q) = TV.func f p q:=rfl
theorem zccb (i n:Nat) :ren i n (TV.nilI ) = TV.nilI :=rfl
theorem zbau (i n:Nat) (cs:List TV):ren i n (TV.agg cs) = TV.agg cs:=rfl
theorem zbal (i n:Nat) (cs:List TV):ren i n (TV.tup cs) = TV.tup cs:=rfl
theorem zbdj (off id o:Nat):fad off (.ptr id o) = some (.ptr id (o + off)):=rfl
theorem zb92 (off:Nat) (cs:List TV) (o:Nat):fad off (.rptr cs o) = some (.rptr cs (o + off)):=rfl
def fl1 (off:Nat):TV → Option TV | .agg cs => cs[off]? | _ => none
theorem zb9d (off:Nat) (x:Operand):tG Γ dr (.field1 off x) m d K fr tk τ = pK (fl1 off (tO fr x)) d K fr tk τ:=(fe d K fr tk τ (tP (.field1 off x) fr τ)).trans (by unfold fl1; rfl)
theorem zbdi (off:Nat) (cs:List TV):fl1 off (.agg cs) = cs[off]?:=rfl
def flN (off n:Nat):TV → Option TV | .agg cs => if off + n ≤ cs.length then some (.agg ((cs.drop off).take n)) else none | _ => none
theorem zb9e (off n:Nat) (x:Operand):tG Γ dr (.fieldN off n x) m d K fr tk τ = pK (flN off n (tO fr x)) d K fr tk τ:=(fe d K fr tk τ (tP (.fieldN off n x) fr τ)).trans (by unfold flN; rfl)
theorem zbdh (off n:Nat) (cs:List TV):flN off n (.agg cs) = if off + n ≤ cs.length then some (.agg ((cs.drop off).take n)) else none:=rfl
def ixP (len sz:Nat) (x i:TV):Option TV:=match x,i with
 | .ptr id o,.int _ n => if 0 ≤ n ∧ n < len then some (.ptr id (o + n.toNat * sz)) else none
 | .rptr cs o,.int _ n => if 0 ≤ n ∧ n < len then some (.rptr cs (o + n.toNat * sz)) else none
 | _,_ => none
theorem zbzl (len sz:Nat) (x i:Operand):tG Γ dr (.indexPtr len sz x i) m d K fr tk τ = pK (ixP len sz (tO fr x) (tO fr i)) d K fr tk τ:=(fe d K fr tk τ (tP (.indexPtr len sz x i) fr τ)).trans (by unfold ixP; rfl)
theorem zbcz (len sz id o:Nat) (k:IntKind) (n:Int):ixP len sz (.ptr id o) (.int k n) = if 0 ≤ n ∧ n < len then some (.ptr id (o + n.toNat * sz)) else none:=rfl
theorem zca7 (len sz:Nat) (cs:List TV) (o:Nat) (k:IntKind) (n:Int):ixP len sz (.rptr cs o) (.int k n) = if 0 ≤ n ∧ n < len then some (.rptr cs (o + n.toNat * sz)) else none:=rfl
def ixS (sz:Nat) (x i:TV):Option TV:=match i with
 | .int _ n => (match x with
  | .slm id o len s => if 0 ≤ n ∧ n < len ∧ s = sz then some (.ptr id (o + n.toNat * sz)) else none
  | v => v.list.bind fun l => if 0 ≤ n ∧ n < l.length ∧ (l.getD n.toNat .undef).cells.length = sz then some (.rptr (l.getD n.toNat .undef).cells 0) else none)
 | _ => none
theorem zcds (sz:Nat) (x i:Operand):tG Γ dr (.indexSl sz x i) m d K fr tk τ = pK (ixS sz (tO fr x) (tO fr i)) d K fr tk τ:=(fe d K fr tk τ (tP (.indexSl sz x i) fr τ)).trans (by unfold ixS; rfl)
theorem zbi2 (sz:Nat) (l:List TV) (j:IntKind) (n:Int):ixS sz (.sl l) (.int j n) = if 0 ≤ n ∧ n < l.length ∧ (l.getD n.toNat .undef).cells.length = sz then some (.rptr (l.getD n.toNat .undef).cells 0) else none:=rfl
theorem zbcy (sz:Nat) (k:Nat) (l:List TV) (j:IntKind) (n:Int):ixS sz (.sla k l) (.int j n) = if 0 ≤ n ∧ n < l.length ∧ (l.getD n.toNat .undef).cells.length = sz then some (.rptr (l.getD n.toNat .undef).cells 0) else none:=rfl
theorem zbcx (sz id o len s:Nat) (j:IntKind) (n:Int):ixS sz (.slm id o len s) (.int j n) = if 0 ≤ n ∧ n < len ∧ s = sz then some (.ptr id (o + n.toNat * sz)) else none:=rfl
def ixT (x i:TV):Option TV:=match x,i with | .str s,.int _ n => if 0 ≤ n ∧ n < s.size then some (.int .u8 (s.data.getD n.toNat 0).toNat) else none | _,_ => none
theorem zbzm (x i:Operand):tG Γ dr (.indexStr x i) m d K fr tk τ = pK (ixT (tO fr x) (tO fr i)) d K fr tk τ:=(fe d K fr tk τ (tP (.indexStr x i) fr τ)).trans (by unfold ixT; rfl)
theorem zbo5 (s:ByteArray) (k:IntKind) (n:Int):ixT (.str s) (.int k n) = if 0 ≤ n ∧ n < s.size then some (.int .u8 (s.data.getD n.toNat 0).toNat) else none:=rfl
def slT (x:TV) (lo hi:Option TV):Option TV:=match x with | .str s => (gv s.size lo hi).map fun lh => .str (s.extract lh.1 lh.2) | _ => none
theorem zbzn (x:Operand) (lo hi:Option Operand):tG Γ dr (.sliceStr x lo hi) m d K fr tk τ = pK (slT (tO fr x) (lo.map (tO fr)) (hi.map (tO fr))) d K fr tk τ:=(fe d K fr tk τ (tP (.sliceStr x lo hi) fr τ)).trans (by unfold slT; rfl)
theorem zboh (s:ByteArray) (lo hi:Option TV):slT (.str s) lo hi = (gv s.size lo hi).map fun lh => .str (s.extract lh.1 lh.2):=rfl
def slS (sz:Nat) (x:TV) (lo hi:Option TV):Option TV:=match x with
 | .slm id o len s => if s = sz then (gv len lo hi).map fun lh => .slm id (o + lh.1 * sz) (lh.2 - lh.1) sz else none
 | .sl l => if l.all (fun e => e.cells.length == sz) && !l.isEmpty then (gv l.length lo hi).map fun lh => .sl ((l.take lh.2).drop lh.1) else none
 | .sla _ l => if l.all (fun e => e.cells.length == sz) && !l.isEmpty then (gv l.length lo hi).map fun lh => .sl ((l.take lh.2).drop lh.1) else none
 | _ => none
theorem zbwi (sz:Nat) (x:Operand) (lo hi:Option Operand):tG Γ dr (.sliceSl sz x lo hi) m d K fr tk τ = pK (slS sz (tO fr x) (lo.map (tO fr)) (hi.map (tO fr))) d K fr tk τ:=(fe d K fr tk τ (tP (.sliceSl sz x lo hi) fr τ)).trans (by unfold slS; rfl)
theorem zbhz (sz:Nat) (l:List TV) (lo hi:Option TV):slS sz (.sl l) lo hi = if l.all (fun e => e.cells.length == sz) && !l.isEmpty then (gv l.length lo hi).map fun lh => .sl ((l.take lh.2).drop lh.1) else none:=rfl
theorem zbad (sz k:Nat) (l:List TV) (lo hi:Option TV):slS sz (.sla k l) lo hi = if l.all (fun e => e.cells.length == sz) && !l.isEmpty then (gv l.length lo hi).map fun lh => .sl ((l.take lh.2).drop lh.1) else none:=rfl
theorem zbac (sz id o len s:Nat) (lo hi:Option TV):slS sz (.slm id o len s) lo hi = if s = sz then (gv len lo hi).map fun lh => .slm id (o + lh.1 * sz) (lh.2 - lh.1) sz else none:=rfl
theorem zbn6 (n:Nat):gv n none none = some (0,n):=rfl
theorem zbn8 (n:Nat) (k:IntKind) (l:Int):gv n (some (.int k l)) none = if 0 ≤ l ∧ l ≤ n then some (l.toNat,n) else none:=rfl
theorem zbn7 (n:Nat) (k:IntKind) (h:Int):gv n none (some (.int k h)) = if 0 ≤ h ∧ h ≤ n then some (0,h.toNat) else none:=by unfold gv tHi; by_cases c:0 ≤ h ∧ h ≤ n <;> simp [c,tLo]
theorem zbn9 (n:Nat) (k j:IntKind) (l h:Int):gv n (some (.int k l)) (some (.int j h)) = if (0 ≤ h ∧ h ≤ n) ∧ 0 ≤ l ∧ l ≤ h then some (l.toNat,h.toNat) else none:=by
 unfold gv tHi
 by_cases c:0 ≤ h ∧ h ≤ n
 · have e:((h.toNat:Nat):Int) = h:=by omega
   simp only [c,and_self,if_true,Option.bind_some,tLo,e,true_and]
 · have c':¬ ((0 ≤ h ∧ h ≤ n) ∧ 0 ≤ l ∧ l ≤ h):=fun q => c q.1
   rw [if_neg c']
   simp [c]
theorem zbb2 {α β:Type} (c:Prop) [Decidable c] (x:α) (f:α → β):(if c then some x else none:Option α).map f = if c then some (f x) else none:=by by_cases h:c <;> simp [h]
def zbvh:TV → Option TV | .str s => some (.int .i64 s.size) | _ => none
theorem zbjq (x:Operand):tG Γ dr (.lenS x) m d K fr tk τ = pK (zbvh (tO fr x)) d K fr tk τ:=(fe d K fr tk τ (tP (.lenS x) fr τ)).trans (by unfold zbvh; rfl)
theorem zbi1 (s:ByteArray):zbvh (.str s) = some (.int .i64 s.size):=rfl
def zbmr:TV → Option TV | .slm _ _ n _ => some (.int .i64 n) | v => v.list.map fun l => .int .i64 l.length
theorem zbjr (x:Operand):tG Γ dr (.lenL x) m d K fr tk τ = pK (zbmr (tO fr x)) d K fr tk τ:=(fe d K fr tk τ (tP (.lenL x) fr τ)).trans (by unfold zbmr; rfl)
theorem zcah (id o n s:Nat):zbmr (.slm id o n s) = some (.int .i64 n):=rfl
theorem zbco (l:List TV):zbmr (.sl l) = some (.int .i64 l.length):=rfl
theorem zcag (k:Nat) (l:List TV):zbmr (.sla k l) = some (.int .i64 l.length):=rfl
theorem zcai:zbmr .slz = some (.int .i64 0):=rfl
def zbvf (x y:TV):Option TV:=match x,y with | .int k a,.int _ b => some (.int k (if b < a then b else a)) | _,_ => none
theorem zbpt (x y:Operand):tG Γ dr (.min x y) m d K fr tk τ = pK (zbvf (tO fr x) (tO fr y)) d K fr tk τ:=(fe d K fr tk τ (tP (.min x y) fr τ)).trans (by unfold zbvf; rfl)
theorem zbio (k j:IntKind) (a b:Int):zbvf (.int k a) (.int j b) = some (.int k (if b < a then b else a)):=rfl
def zbvg (x y:TV):Option TV:=match x,y with | .int k a,.int _ b => some (.int k (if a < b then b else a)) | _,_ => none
theorem zbpu (x y:Operand):tG Γ dr (.max x y) m d K fr tk τ = pK (zbvg (tO fr x) (tO fr y)) d K fr tk τ:=(fe d K fr tk τ (tP (.max x y) fr τ)).trans (by unfold zbvg; rfl)
theorem zbip (k j:IntKind) (a b:Int):zbvg (.int k a) (.int j b) = some (.int k (if a < b then b else a)):=rfl
theorem zb9f (f:FuncId) (first captured:List Operand):tG Γ dr (.mkFunc (.func f) first captured) m d K fr tk τ = K (dh fr d (.func f (first.map fun x => (tO fr x).canS) (captured.map fun x => (tO fr x).canS))) tk τ:=rfl
def exT (i:Nat):TV → Option TV | .tup cs => cs[i]? | _ => none
theorem zcdr (x:Operand) (i:Nat):tG Γ dr (.extract x i) m d K fr tk τ = pK (exT i (tO fr x)) d K fr tk τ:=(fe d K fr tk τ (tP (.extract x i) fr τ)).trans (by unfold exT; rfl)
theorem zbpc (i:Nat) (cs:List TV):exT i (.tup cs) = cs[i]?:=rfl
theorem zbe5 (zero:List Value) (parts:List (Nat × Nat × Operand)):tG Γ dr (.build zero parts) m d K fr tk τ = pK ((zbgv (zero.map ofS) (parts.map fun p => (p.1,p.2.1,tO fr p.2.2))).map .agg) d K fr tk τ:=(fe d K fr tk τ (tP (.build zero parts) fr τ)).trans (by rfl)
theorem zbyp (cs:List TV):zbgv cs [] = some cs:=rfl
theorem zb0t (cs:List TV) (off size:Nat) (v:TV) (r:List (Nat × Nat × TV)):zbgv cs ((off,size,v) :: r) = if v.known = true ∧ v.cells.length = size ∧ off + size ≤ cs.length then zbgv (j4 cs off (v.cells.map TV.part)) r else none:=rfl
theorem zbsa (cs:List TV) (off:Nat):j4 cs off [] = cs:=rfl
theorem zbsl (cs:List TV) (off:Nat) (v:TV) (r:List TV):j4 cs off (v :: r) = j4 (cs.set off v) (off + 1) r:=rfl
def zbmp (τ:TH):TV → Option TV | .slm id off n s => (if s = 1 then ((zae2 τ id off n).bind mo).map fun bs => .str ⟨bs.toArray⟩ else none) | v => (v.list.bind mo).map fun bs => .str ⟨bs.toArray⟩
theorem zbev (x:Operand):tG Γ dr (.toStr x) m d K fr tk τ = pK (zbmp τ (tO fr x)) d K fr tk τ:=(fe d K fr tk τ (tP (.toStr x) fr τ)).trans (by unfold zbmp; rfl)
theorem zcdj (l:List TV):zbmp τ (.sl l) = (mo l).map fun bs => .str ⟨bs.toArray⟩:=rfl
theorem zbzj (k:Nat) (l:List TV):zbmp τ (.sla k l) = (mo l).map fun bs => .str ⟨bs.toArray⟩:=rfl
theorem zccn:zbmp τ .slz = some (.str ⟨#[]⟩):=rfl
theorem zccm (id off n s:Nat):zbmp τ (.slm id off n s) = if s = 1 then ((zae2 τ id off n).bind mo).map fun bs => .str ⟨bs.toArray⟩ else none:=rfl
def ixA (len:Nat) (x i:TV):Option TV:=match x,i with | .agg cs,.int _ n => if 0 ≤ n ∧ n < len ∧ len ≤ cs.length then cs[n.toNat]? else none | _,_ => none
theorem zbzk (len:Nat) (x i:Operand):tG Γ dr (.indexAgg len x i) m d K fr tk τ = pK (ixA len (tO fr x) (tO fr i)) d K fr tk τ:=(fe d K fr tk τ (tP (.indexAgg len x i) fr τ)).trans (by unfold ixA; rfl)
theorem zbo6 (len:Nat) (cs:List TV) (k:IntKind) (n:Int):ixA len (.agg cs) (.int k n) = if 0 ≤ n ∧ n < len ∧ len ≤ cs.length then cs[n.toNat]? else none:=rfl
def zbvi (len sz:Nat) (x i:TV):Option TV:=match x,i with | .agg cs,.int _ n => if 0 ≤ n ∧ n < len ∧ len * sz ≤ cs.length then some (.agg ((cs.drop (n.toNat * sz)).take sz)) else none | _,_ => none
theorem zb1l (len sz:Nat) (x i:Operand):tG Γ dr (.indexAggN len sz x i) m d K fr tk τ = pK (zbvi len sz (tO fr x) (tO fr i)) d K fr tk τ:=(fe d K fr tk τ (tP (.indexAggN len sz x i) fr τ)).trans (by unfold zbvi; rfl)
theorem zbi3 (len sz:Nat) (cs:List TV) (k:IntKind) (n:Int):zbvi len sz (.agg cs) (.int k n) = if 0 ≤ n ∧ n < len ∧ len * sz ≤ cs.length then some (.agg ((cs.drop (n.toNat * sz)).take sz)) else none:=rfl
def eqA (neg:Bool) (ks:List FK) (x y:TV):Option TV:=match x,y with | .agg p,.agg q => (zbmn ks p q).map fun b => .bool (bif neg then !b else b) | _,_ => none
theorem zbpv (neg:Bool) (ks:List FK) (x y:Operand):tG Γ dr (.eqF neg ks x y) m d K fr tk τ = pK (eqA neg ks (tO fr x) (tO fr y)) d K fr tk τ:=(fe d K fr tk τ (tP (.eqF neg ks x y) fr τ)).trans (by unfold eqA; rfl)
theorem zbpd (neg:Bool) (ks:List FK) (p q:List TV):eqA neg ks (.agg p) (.agg q) = (zbmn ks p q).map fun b => .bool (bif neg then !b else b):=rfl
theorem zbpx (t n:Nat) (x:Operand):tG Γ dr (.box t n x) m d K fr tk τ = (((tO fr x).cells.all TV.one = true ∧ eo τ.next ((tO fr x).cells.map TV.put) = true) ∧ K (dh fr d (.ptr τ.next 0)) tk (τ.push ⟨t,(tO fr x).cells.map TV.put⟩)):=zbux d K fr _ _
def stK (n:Nat) (a x:TV) (d:Option Nat) (K:ak) (fr:TF) (tk:TK) (τ:TH):Prop:=match a with
 | .ptr id off => x.cells.length = n ∧ (match zbme τ id off (x.cells.map TV.put) with | some τ' => K (dh fr d (.tup [])) tk τ' | none => False)
 | _ => False
theorem zbew (n:Nat) (y x:Operand):tG Γ dr (.store n y x) 0 d K fr tk τ = stK n (tO fr y) (tO fr x) d K fr tk τ:=by
 have e0:ky (.store n y x) 0 fr τ = (fr,τ):=rfl
 simp only [tG,e0,tOp,stK]
 cases tO fr y with
 | ptr id off =>
  by_cases h:(tO fr x).cells.length = n
  · simp only [h,if_true,true_and,show (0:Nat) = 2 ↔ False from by decide,if_false]
    cases zbme τ id off ((tO fr x).cells.map TV.put) <;> rfl
  · simp [h,opK]
 | _ => rfl
def stB (o:Option Ob) (id off:Nat) (vs:List TV) (d:Option Nat) (K:ak) (fr:TF) (tk:TK) (τ:TH):Prop:=match o with
 | some b => (τ.lock ≤ id ∧ vs ≠ [] ∧ off + vs.length ≤ b.cs.length ∧ (vs.all TV.one = true) ∧ eo (id + 1) vs = true) ∧ K (dh fr d (.tup [])) tk (τ.put id ⟨b.t,j4 b.cs off vs⟩)
 | none => False
theorem zbab (n id off:Nat) (x:TV):stK n (.ptr id off) x d K fr tk τ = (x.cells.length = n ∧ stB (τ.at id) id off (x.cells.map TV.put) d K fr tk τ):=by
 simp only [stK,stB,zbme]
 cases τ.at id with
 | none => rfl
 | some b =>
  simp only [Option.bind_some]
  split
  · rename_i τ' h
    split at h
    · rename_i hc; injection h with h; subst h; simp only [hc,ne_eq,not_false_eq_true,and_self,true_and]
    · cases h
  · rename_i h
    split at h
    · cases h
    · rename_i hc; simp only [hc,false_and]
theorem zcck (t:TypeId) (cs:List TV) (id off:Nat) (vs:List TV):stB (some ⟨t,cs⟩) id off vs d K fr tk τ = ((τ.lock ≤ id ∧ vs ≠ [] ∧ off + vs.length ≤ cs.length ∧ (vs.all TV.one = true) ∧ eo (id + 1) vs = true) ∧ K (dh fr d (.tup [])) tk (τ.put id ⟨t,j4 cs off vs⟩)):=rfl
def tkB (o:Option Ob) (id off:Nat) (d:Option Nat) (K:ak) (fr:TF) (tk:TK) (τ:TH):Prop:=match o with
 | some b => (match b.cs[off]? with | some (.slo t l) => τ.lock ≤ id ∧ K (dh fr d (.sla tk.length l)) (tk ++ [some (l.length,t)]) (τ.put id ⟨b.t,b.cs.set off (.sl l)⟩) | some .slz => τ.lock ≤ id ∧ K (dh fr d (.sla tk.length [])) (tk ++ [some (0,0)]) (τ.put id ⟨b.t,b.cs.set off (.sl [])⟩) | _ => False)
 | none => False
def tkK (x:TV) (d:Option Nat) (K:ak) (fr:TF) (tk:TK) (τ:TH):Prop:=match x with | .ptr id off => tkB (τ.at id) id off d K fr tk τ | _ => False
def tkC (t:TypeId) (cs:List TV) (id off:Nat) (v:Option TV) (d:Option Nat) (K:ak) (fr:TF) (tk:TK) (τ:TH):Prop:=match v with | some (.slo u l) => τ.lock ≤ id ∧ K (dh fr d (.sla tk.length l)) (tk ++ [some (l.length,u)]) (τ.put id ⟨t,cs.set off (.sl l)⟩) | some .slz => τ.lock ≤ id ∧ K (dh fr d (.sla tk.length [])) (tk ++ [some (0,0)]) (τ.put id ⟨t,cs.set off (.sl [])⟩) | _ => False
theorem zbey (x:Operand):tG Γ dr (.load1 x) 2 d K fr tk τ = tkK (tO fr x) d K fr tk τ:=by
 simp only [tG,tOp,tkK,if_true]
 cases tO fr x with
 | ptr id off =>
  simp only [tkB]
  cases τ.at id with
  | none => rfl
  | some b =>
   simp only [Option.bind_some]
   cases hq:b.cs[off]? with
   | none => rfl
   | some v =>
    cases v with
    | slo t l => by_cases h:τ.lock ≤ id <;> simp [h,opK]
    | slz => by_cases h:τ.lock ≤ id <;> simp [h,opK]
    | _ => rfl
 | _ => rfl
theorem za9c (id off:Nat):tkK (.ptr id off) d K fr tk τ = tkB (τ.at id) id off d K fr tk τ:=rfl
theorem zcc8 (t:TypeId) (cs:List TV) (id off:Nat):tkB (some ⟨t,cs⟩) id off d K fr tk τ = tkC t cs id off cs[off]? d K fr tk τ:=rfl
theorem zcdm (t:TypeId) (cs:List TV) (id off:Nat):tkC t cs id off (some .slz) d K fr tk τ = (τ.lock ≤ id ∧ K (dh fr d (.sla tk.length [])) (tk ++ [some (0,0)]) (τ.put id ⟨t,cs.set off (.sl [])⟩)):=rfl
theorem zcdl (t u:TypeId) (cs l:List TV) (id off:Nat):tkC t cs id off (some (.slo u l)) d K fr tk τ = (τ.lock ≤ id ∧ K (dh fr d (.sla tk.length l)) (tk ++ [some (l.length,u)]) (τ.put id ⟨t,cs.set off (.sl l)⟩)):=rfl
def s2K (n:Nat) (a x:TV) (d:Option Nat) (K:ak) (fr:TF) (tk:TK) (τ:TH):Prop:=match a,x with
 | .ptr id off,.sla tok l => (match tk[tok]? with
  | some (some (k,t)) => (k = l.length ∧ n = 1) ∧ stB (τ.at id) id off [.slo t l] d K fr (tk.set tok none) τ
  | _ => False)
 | _,_ => False
def s2T (o:Option (Option (Nat × TypeId))) (n id off tok:Nat) (l:List TV) (d:Option Nat) (K:ak) (fr:TF) (tk:TK) (τ:TH):Prop:=match o with
 | some (some (k,t)) => (k = l.length ∧ n = 1) ∧ stB (τ.at id) id off [.slo t l] d K fr (tk.set tok none) τ
 | _ => False
theorem zb8p (n:Nat) (y x:Operand):tG Γ dr (.store n y x) 2 d K fr tk τ = s2K n (tO fr y) (tO fr x) d K fr tk τ:=by
 have e0:ky (.store n y x) 2 fr τ = (fr,τ):=rfl
 simp only [tG,e0,tOp,s2K,if_true]
 cases tO fr y with
 | ptr id off =>
  cases tO fr x with
  | sla tok l =>
   simp only
   cases tk[tok]? with
   | none => rfl
   | some o =>
    cases o with
    | none => rfl
    | some p =>
     obtain ⟨k,t⟩:=p
     by_cases h:k = l.length ∧ n = 1
     · simp only [h,and_self,if_true,true_and,zbme,stB]
       cases τ.at id with
       | none => rfl
       | some b =>
        simp only [Option.bind_some]
        by_cases hc:τ.lock ≤ id ∧ [TV.slo t l] ≠ [] ∧ off + [TV.slo t l].length ≤ b.cs.length ∧ ([TV.slo t l].all TV.one = true) ∧ eo (id + 1) [TV.slo t l] = true
        · rw [if_pos hc]; simp only [hc,ne_eq,not_false_eq_true,and_self,true_and]; rfl
        · rw [if_neg hc]; simp only [hc,false_and]; rfl
     · simp only [h,if_false,false_and]; rfl
  | _ => rfl
 | _ => rfl
theorem zbai (n id off tok:Nat) (l:List TV):s2K n (.ptr id off) (.sla tok l) d K fr tk τ = s2T (tk[tok]?) n id off tok l d K fr tk τ:=rfl
theorem zccg (n id off tok k t:Nat) (l:List TV):s2T (some (some (k,t))) n id off tok l d K fr tk τ = ((k = l.length ∧ n = 1) ∧ stB (τ.at id) id off [.slo t l] d K fr (tk.set tok none) τ):=rfl
def bsO (m:Nat) (t sz:Nat) (o:Option (List TV)) (d:Option Nat) (K:ak) (fr:TF) (tk:TK) (τ:TH):Prop:=match o with | some l => (if m = 1 then K (dh fr d (.slm τ.next 0 l.length sz)) tk (τ.push ⟨t,l.flatMap TV.cells⟩) else if m = 2 then (l ≠ [] ∧ l.length ≤ maxLen) ∧ K (dh fr d (.sla tk.length l)) (tk ++ [some (l.length,t)]) τ else K (dh fr d (.sl l)) tk τ) | none => False
theorem zcdq (t sz len:Nat) (zeros:List Value) (parts:List (Nat × Nat × Operand)):tG Γ dr (.buildSl t sz len zeros parts) m d K fr tk τ = ((parts.length = len ∧ sz ≠ 0 ∧ zeros.length = len * sz) ∧ bsO m t sz (za8y sz 0 (parts.map fun p => (p.1,p.2.1,tO fr p.2.2))) d K fr tk τ):=by
 simp only [tG,tOp,bsO]
 by_cases h:parts.length = len ∧ sz ≠ 0 ∧ zeros.length = len * sz
 · rw [if_pos h]
   cases za8y sz 0 (parts.map fun p => (p.1,p.2.1,tO fr p.2.2)) with
   | none => exact propext ⟨False.elim,fun q => q.2⟩
   | some l =>
    simp only [Option.bind_some,and_iff_right h]
    by_cases h1:m = 1
    · rw [if_pos h1,if_pos h1]; rfl
    · rw [if_neg h1,if_neg h1]
      by_cases h2:m = 2
      · rw [if_pos h2,if_pos h2]
        by_cases h3:l ≠ [] ∧ l.length ≤ maxLen
        · rw [if_pos h3]; exact propext ⟨fun q => ⟨h3,q⟩,fun q => q.2⟩
        · rw [if_neg h3]; exact propext ⟨False.elim,fun q => h3 q.1⟩
      · rw [if_neg h2,if_neg h2]; rfl
 · rw [if_neg h]; simp only [h,false_and]; rfl
theorem zbpk (t sz:Nat) (l:List TV):bsO 0 t sz (some l) d K fr tk τ = K (dh fr d (.sl l)) tk τ:=rfl
theorem zbpj (t sz:Nat) (l:List TV):bsO 1 t sz (some l) d K fr tk τ = K (dh fr d (.slm τ.next 0 l.length sz)) tk (τ.push ⟨t,l.flatMap TV.cells⟩):=rfl
theorem zbpi (t sz:Nat) (l:List TV):bsO 2 t sz (some l) d K fr tk τ = ((l ≠ [] ∧ l.length ≤ maxLen) ∧ K (dh fr d (.sla tk.length l)) (tk ++ [some (l.length,t)]) τ):=rfl
theorem zb0s (sz i:Nat):za8y sz i [] = some []:=rfl
theorem zb20 (sz i off n:Nat) (v:TV) (r:List (Nat × Nat × TV)):za8y sz i ((off,n,v) :: r) = if off = i * sz ∧ n = sz ∧ v.canA.cells.length = sz ∧ v.canA.pure = true then (za8y sz (i + 1) r).map (v.canA :: ·) else none:=rfl
def msK (mu:Bool) (t bytes:Nat) (zero:List Value) (l c:TV) (d:Option Nat) (K:ak) (fr:TF) (tk:TK) (τ:TH):Prop:=match l,c with
 | .int _ n,.int _ k => (0 ≤ n ∧ n ≤ k ∧ k * bytes ≤ 140737488355328 ∧ k ≤ 9223372036854775807 ∧ zero.length ≠ 0 ∧ (zero.all fun z => (ofS z).canS.pureS) = true) ∧
  (bif mu then K (dh fr d (.slm τ.next 0 n.toNat zero.length)) tk (τ.push ⟨t,((List.replicate n.toNat (zero.map fun z => (ofS z).put)).flatten)⟩) else K (dh fr d (.sl (List.replicate n.toNat (zbdl (zero.map fun z => (ofS z).canS))))) tk τ)
 | _,_ => False
theorem zcdt (t bytes:Nat) (zero:List Value) (l c:Operand):tG Γ dr (.makeSl t bytes zero l c) 0 d K fr tk τ = msK false t bytes zero (tO fr l) (tO fr c) d K fr tk τ:=by
 simp only [tG,tOp,msK]
 cases tO fr l with
 | int k1 n =>
  cases tO fr c with
  | int k2 k =>
   simp only
   by_cases h:0 ≤ n ∧ n ≤ k ∧ k * bytes ≤ 140737488355328 ∧ k ≤ 9223372036854775807 ∧ zero.length ≠ 0 ∧ (zero.all fun z => (ofS z).canS.pureS) = true
   · rw [if_pos h]; simp only [h,ne_eq,not_false_eq_true,and_self,true_and]; rfl
   · rw [if_neg h]; simp only [h,false_and]; rfl
  | _ => rfl
 | _ => rfl
theorem zcdu (t bytes:Nat) (zero:List Value) (l c:Operand):tG Γ dr (.makeSl t bytes zero l c) 1 d K fr tk τ = msK true t bytes zero (tO fr l) (tO fr c) d K fr tk τ:=by
 simp only [tG,tOp,msK]
 cases tO fr l with
 | int k1 n =>
  cases tO fr c with
  | int k2 k =>
   simp only
   by_cases h:0 ≤ n ∧ n ≤ k ∧ k * bytes ≤ 140737488355328 ∧ k ≤ 9223372036854775807 ∧ zero.length ≠ 0 ∧ (zero.all fun z => (ofS z).canS.pureS) = true
   · rw [if_pos h]; simp only [h,ne_eq,not_false_eq_true,and_self,true_and]; rfl
   · rw [if_neg h]; simp only [h,false_and]; rfl
  | _ => rfl
 | _ => rfl
def msA (t bytes:Nat) (zero:List Value) (l c:TV) (d:Option Nat) (K:ak) (fr:TF) (tk:TK) (τ:TH):Prop:=match l,c with
 | .int _ n,.int _ k => (0 ≤ n ∧ n ≤ k ∧ k * bytes ≤ 140737488355328 ∧ k ≤ 9223372036854775807 ∧ zero.length ≠ 0 ∧ (zero.all fun z => (ofS z).canS.pureS) = true) ∧ (n = 0 ∧ zero.length = 1) ∧ K (dh fr d (.slb tk.length t)) (tk ++ [some (0,t)]) τ
 | _,_ => False
theorem zcdv (t bytes:Nat) (zero:List Value) (l c:Operand):tG Γ dr (.makeSl t bytes zero l c) 2 d K fr tk τ = msA t bytes zero (tO fr l) (tO fr c) d K fr tk τ:=by
 simp only [tG,tOp,msA]
 cases tO fr l with
 | int k1 n =>
  cases tO fr c with
  | int k2 k =>
   simp only
   by_cases h:0 ≤ n ∧ n ≤ k ∧ k * bytes ≤ 140737488355328 ∧ k ≤ 9223372036854775807 ∧ zero.length ≠ 0 ∧ (zero.all fun z => (ofS z).canS.pureS) = true
   · rw [if_pos h,if_neg (by decide),if_pos trivial]
     by_cases h2:n = 0 ∧ zero.length = 1
     · rw [if_pos h2]; exact propext ⟨fun q => ⟨h,h2,q⟩,fun q => q.2.2⟩
     · rw [if_neg h2]; exact propext ⟨False.elim,fun q => h2 q.2.1⟩
   · rw [if_neg h]; simp only [h,false_and]; rfl
  | _ => rfl
 | _ => rfl
theorem zboz (t bytes:Nat) (zero:List Value) (j1 j2:IntKind) (n k:Int):msA t bytes zero (.int j1 n) (.int j2 k) d K fr tk τ = ((0 ≤ n ∧ n ≤ k ∧ k * bytes ≤ 140737488355328 ∧ k ≤ 9223372036854775807 ∧ zero.length ≠ 0 ∧ (zero.all fun z => (ofS z).canS.pureS) = true) ∧ (n = 0 ∧ zero.length = 1) ∧ K (dh fr d (.slb tk.length t)) (tk ++ [some (0,t)]) τ):=rfl
theorem zboy (mu:Bool) (t bytes:Nat) (zero:List Value) (j1 j2:IntKind) (n k:Int):msK mu t bytes zero (.int j1 n) (.int j2 k) d K fr tk τ = ((0 ≤ n ∧ n ≤ k ∧ k * bytes ≤ 140737488355328 ∧ k ≤ 9223372036854775807 ∧ zero.length ≠ 0 ∧ (zero.all fun z => (ofS z).canS.pureS) = true) ∧ (bif mu then K (dh fr d (.slm τ.next 0 n.toNat zero.length)) tk (τ.push ⟨t,((List.replicate n.toNat (zero.map fun z => (ofS z).put)).flatten)⟩) else K (dh fr d (.sl (List.replicate n.toNat (zbdl (zero.map fun z => (ofS z).canS))))) tk τ)):=rfl
def apK (t sz bytes:Nat) (s:TV) (o:Option (List TV)) (d:Option Nat) (K:ak) (fr:TF) (tk:TK) (τ:TH):Prop:=match o with
 | some xs => (match zaqa t sz bytes s xs tk with | some (v,tk') => K (dh fr d v) tk' τ | none => False)
 | none => False
def apT (o:Option (Option (Nat × TypeId))) (t sz bytes tok:Nat) (l xs:List TV) (d:Option Nat) (K:ak) (fr:TF) (tk:TK) (τ:TH):Prop:=match o with
 | some (some (n,t')) => ((xs.all (fun e => e.cells.length == sz && e.pure) = true ∧ xs.length * bytes ≤ 140737488355328 ∧ xs.length ≤ maxLen) ∧ n = l.length ∧ (n = 0 ∨ t' = t) ∧ (l.all (fun e => e.cells.length == sz) = true) ∧ (l.length + xs.length) * bytes ≤ 140737488355328 ∧ l.length + xs.length ≤ maxLen) ∧
  K (dh fr d (.sla tok (l ++ xs))) (tk.set tok (some (l.length + xs.length,t))) τ
 | _ => False
theorem zb9b (t sz bytes:Nat) (s x:Operand):tG Γ dr (.append t sz bytes s x) 0 d K fr tk τ = (sz ≠ 0 ∧ apK t sz bytes (tO fr s) (tO fr x).list d K fr tk τ):=by
 simp only [tG,tOp,apK]
 by_cases h:sz = 0
 · simp [h,opK]
 · simp only [h,if_false,ne_eq,not_false_eq_true,true_and]
   cases (tO fr x).list with
   | none => rfl
   | some xs =>
    simp only [Option.bind_some,show (0:Nat) = 1 ↔ False from by decide,if_false]
    cases zaqa t sz bytes (tO fr s) xs tk <;> rfl
def amK (t sz bytes:Nat) (s:TV) (o:Option (List TV)) (d:Option Nat) (K:ak) (fr:TF) (tk:TK) (τ:TH):Prop:=match o with
 | some xs => (match zapn t sz bytes s xs τ with | some (v,τ') => K (dh fr d v) tk τ' | none => False)
 | none => False
def amO (b:Option Ob) (t sz bytes id n:Nat) (xs:List TV) (d:Option Nat) (K:ak) (fr:TF) (tk:TK) (τ:TH):Prop:=match b with
 | some b => (b.t = t ∧ b.cs.length = n * sz ∧ n ≠ 0 ∧ τ.lock ≤ id ∧ (n + xs.length) * bytes ≤ 140737488355328 ∧ n + xs.length ≤ maxLen) ∧ K (dh fr d (.slm τ.next 0 (n + xs.length) sz)) tk ((τ.put id ⟨t,[]⟩).push ⟨t,b.cs ++ xs.flatMap TV.cells⟩)
 | none => False
theorem zcdn (t sz bytes:Nat) (s x:Operand):tG Γ dr (.append t sz bytes s x) 1 d K fr tk τ = (sz ≠ 0 ∧ amK t sz bytes (tO fr s) (tO fr x).list d K fr tk τ):=by
 simp only [tG,tOp,amK]
 by_cases h:sz = 0
 · simp [h,opK]
 · simp only [h,if_false,ne_eq,not_false_eq_true,true_and]
   cases (tO fr x).list with
   | none => rfl
   | some xs =>
    simp only [Option.bind_some,if_true]
    cases zapn t sz bytes (tO fr s) xs τ <;> rfl
theorem zbeg (t sz bytes:Nat) (xs:List TV):amK t sz bytes .slz (some xs) d K fr tk τ = ((xs ≠ [] ∧ xs.all (fun e => e.cells.length == sz && e.pure) = true) ∧ (xs.length * bytes ≤ 140737488355328 ∧ xs.length ≤ maxLen) ∧ K (dh fr d (.slm τ.next 0 xs.length sz)) tk (τ.push ⟨t,xs.flatMap TV.cells⟩)):=by
 simp only [amK,zapn]
 by_cases h:xs ≠ [] ∧ xs.all (fun e => e.cells.length == sz && e.pure) = true
 · rw [if_pos h]
   by_cases h2:xs.length * bytes ≤ 140737488355328 ∧ xs.length ≤ maxLen
   · rw [if_pos h2]; exact propext ⟨fun q => ⟨h,h2,q⟩,fun q => q.2.2⟩
   · rw [if_neg h2]; exact propext ⟨False.elim,fun q => h2 q.2.1⟩
 · rw [if_neg h]; exact propext ⟨False.elim,fun q => h q.1⟩
theorem zbeh (t sz bytes id n:Nat) (xs:List TV):amK t sz bytes (.slm id 0 n sz) (some xs) d K fr tk τ = ((xs ≠ [] ∧ xs.all (fun e => e.cells.length == sz && e.pure) = true) ∧ amO (τ.at id) t sz bytes id n xs d K fr tk τ):=by
 simp only [amK,zapn,amO]
 by_cases h:xs ≠ [] ∧ xs.all (fun e => e.cells.length == sz && e.pure) = true
 · rw [if_pos h]
   cases τ.at id with
   | none => exact propext ⟨False.elim,fun q => q.2⟩
   | some b =>
    simp only [Option.bind_some,true_and]
    by_cases h2:b.t = t ∧ b.cs.length = n * sz ∧ n ≠ 0 ∧ τ.lock ≤ id ∧ (n + xs.length) * bytes ≤ 140737488355328 ∧ n + xs.length ≤ maxLen
    · rw [if_pos h2]; exact propext ⟨fun q => ⟨h,h2,q⟩,fun q => q.2.2⟩
    · rw [if_neg h2]; exact propext ⟨False.elim,fun q => h2 q.2.1⟩
 · rw [if_neg h]; exact propext ⟨False.elim,fun q => h q.1⟩
theorem zb8s (t u sz bytes id n:Nat) (cs xs:List TV):amO (some ⟨u,cs⟩) t sz bytes id n xs d K fr tk τ = ((u = t ∧ cs.length = n * sz ∧ n ≠ 0 ∧ τ.lock ≤ id ∧ (n + xs.length) * bytes ≤ 140737488355328 ∧ n + xs.length ≤ maxLen) ∧ K (dh fr d (.slm τ.next 0 (n + xs.length) sz)) tk ((τ.put id ⟨t,[]⟩).push ⟨t,cs ++ xs.flatMap TV.cells⟩)):=rfl
def atK (t sz bytes:Nat) (s:TV) (o:Option (List TV)) (d:Option Nat) (K:ak) (fr:TF) (tk:TK) (τ:TH):Prop:=match o with
 | some xs => (match za9u t sz bytes s xs τ with | some (v,τ') => K (dh fr d v) tk τ' | none => False)
 | none => False
def atO (b:Option Ob) (t sz bytes id n:Nat) (xs:List TV) (d:Option Nat) (K:ak) (fr:TF) (tk:TK) (τ:TH):Prop:=match b with
 | some b => (b.t = t ∧ n * sz ≤ b.cs.length ∧ b.cs ≠ [] ∧ τ.lock ≤ id ∧ (n + xs.length) * bytes ≤ 140737488355328 ∧ n + xs.length ≤ maxLen) ∧ K (dh fr d (.slm τ.next 0 (n + xs.length) sz)) tk ((τ.put id ⟨t,[]⟩).push ⟨t,b.cs.take (n * sz) ++ xs.flatMap TV.cells⟩)
 | none => False
theorem zcdo (t sz bytes:Nat) (s x:Operand):tG Γ dr (.append t sz bytes s x) 4 d K fr tk τ = (sz ≠ 0 ∧ atK t sz bytes (tO fr s) (tO fr x).list d K fr tk τ):=by
 simp only [tG,tOp,atK]
 by_cases h:sz = 0
 · simp [h,opK]
 · simp only [h,if_false,ne_eq,not_false_eq_true,true_and]
   cases (tO fr x).list with
   | none => rfl
   | some xs =>
    simp only [Option.bind_some,if_true]
    cases za9u t sz bytes (tO fr s) xs τ <;> rfl
theorem zbd9 (t sz bytes id n:Nat) (xs:List TV):atK t sz bytes (.slm id 0 n sz) (some xs) d K fr tk τ = ((xs ≠ [] ∧ xs.all (fun e => e.cells.length == sz && e.pure) = true) ∧ atO (τ.at id) t sz bytes id n xs d K fr tk τ):=by
 simp only [atK,za9u,atO]
 by_cases h:xs ≠ [] ∧ xs.all (fun e => e.cells.length == sz && e.pure) = true
 · rw [if_pos h]
   cases τ.at id with
   | none => exact propext ⟨False.elim,fun q => q.2⟩
   | some b =>
    simp only [Option.bind_some,true_and]
    by_cases h2:b.t = t ∧ n * sz ≤ b.cs.length ∧ b.cs ≠ [] ∧ τ.lock ≤ id ∧ (n + xs.length) * bytes ≤ 140737488355328 ∧ n + xs.length ≤ maxLen
    · rw [if_pos h2]; exact propext ⟨fun q => ⟨h,h2,q⟩,fun q => q.2.2⟩
    · rw [if_neg h2]; exact propext ⟨False.elim,fun q => h2 q.2.1⟩
 · rw [if_neg h]; exact propext ⟨False.elim,fun q => h q.1⟩
theorem zb8y (t u sz bytes id n:Nat) (cs xs:List TV):atO (some ⟨u,cs⟩) t sz bytes id n xs d K fr tk τ = ((u = t ∧ n * sz ≤ cs.length ∧ cs ≠ [] ∧ τ.lock ≤ id ∧ (n + xs.length) * bytes ≤ 140737488355328 ∧ n + xs.length ≤ maxLen) ∧ K (dh fr d (.slm τ.next 0 (n + xs.length) sz)) tk ((τ.put id ⟨t,[]⟩).push ⟨t,cs.take (n * sz) ++ xs.flatMap TV.cells⟩)):=rfl
theorem zbed (t sz bytes:Nat) (xs:List TV):apK t sz bytes .slz (some xs) d K fr tk τ = ((xs.all (fun e => e.cells.length == sz && e.pure) = true ∧ xs.length * bytes ≤ 140737488355328 ∧ xs.length ≤ maxLen) ∧ K (dh fr d (.sla tk.length xs)) (tk ++ [some (xs.length,t)]) τ):=by
 simp only [apK,zaqa]
 by_cases h:xs.all (fun e => e.cells.length == sz && e.pure) = true ∧ xs.length * bytes ≤ 140737488355328 ∧ xs.length ≤ maxLen
 · rw [if_pos h]; simp only [h,and_self,true_and]
 · rw [if_neg h]; simp only [h,false_and]
theorem zbef (t sz bytes tok:Nat) (l xs:List TV):apK t sz bytes (.sla tok l) (some xs) d K fr tk τ = apT (tk[tok]?) t sz bytes tok l xs d K fr tk τ:=by
 simp only [apK,zaqa,apT]
 by_cases h:xs.all (fun e => e.cells.length == sz && e.pure) = true ∧ xs.length * bytes ≤ 140737488355328 ∧ xs.length ≤ maxLen
 · rw [if_pos h]
   cases tk[tok]? with
   | none => rfl
   | some o =>
    cases o with
    | none => rfl
    | some p =>
     obtain ⟨n,t'⟩:=p
     simp only
     by_cases h2:n = l.length ∧ (n = 0 ∨ t' = t) ∧ (l.all (fun e => e.cells.length == sz) = true) ∧ (l.length + xs.length) * bytes ≤ 140737488355328 ∧ l.length + xs.length ≤ maxLen
     · rw [if_pos h2]; exact propext ⟨fun q => ⟨⟨h,h2⟩,q⟩,fun q => q.2⟩
     · rw [if_neg h2]; simp only [h2,and_false,false_and]
 · rw [if_neg h]
   cases tk[tok]? with
   | none => rfl
   | some o =>
    cases o with
    | none => rfl
    | some p => simp only [h,false_and]
theorem zb8u (n t' t sz bytes tok:Nat) (l xs:List TV):apT (some (some (n,t'))) t sz bytes tok l xs d K fr tk τ = (((xs.all (fun e => e.cells.length == sz && e.pure) = true ∧ xs.length * bytes ≤ 140737488355328 ∧ xs.length ≤ maxLen) ∧ n = l.length ∧ (n = 0 ∨ t' = t) ∧ (l.all (fun e => e.cells.length == sz) = true) ∧ (l.length + xs.length) * bytes ≤ 140737488355328 ∧ l.length + xs.length ≤ maxLen) ∧ K (dh fr d (.sla tok (l ++ xs))) (tk.set tok (some (l.length + xs.length,t))) τ):=rfl
def apB (o:Option (Option (Nat × TypeId))) (t sz bytes tok t0:Nat) (xs:List TV) (d:Option Nat) (K:ak) (fr:TF) (tk:TK) (τ:TH):Prop:=match o with
 | some (some (n,t')) => ((xs.all (fun e => e.cells.length == sz && e.pure) = true ∧ xs.length * bytes ≤ 140737488355328 ∧ xs.length ≤ maxLen) ∧ n = 0 ∧ t0 = t ∧ sz = 1 ∧ xs ≠ []) ∧
  K (dh fr d (.sla tok xs)) (tk.set tok (some (xs.length,t))) τ
 | _ => False
theorem zbee (t sz bytes tok t0:Nat) (xs:List TV):apK t sz bytes (.slb tok t0) (some xs) d K fr tk τ = apB (tk[tok]?) t sz bytes tok t0 xs d K fr tk τ:=by
 simp only [apK,zaqa,apB]
 by_cases h:xs.all (fun e => e.cells.length == sz && e.pure) = true ∧ xs.length * bytes ≤ 140737488355328 ∧ xs.length ≤ maxLen
 · rw [if_pos h]
   cases tk[tok]? with
   | none => rfl
   | some o =>
    cases o with
    | none => rfl
    | some p =>
     obtain ⟨n,t'⟩:=p
     simp only
     by_cases h2:n = 0 ∧ t0 = t ∧ sz = 1 ∧ xs ≠ []
     · rw [if_pos h2]; exact propext ⟨fun q => ⟨⟨h,h2⟩,q⟩,fun q => q.2⟩
     · rw [if_neg h2]; simp only [h2,and_false,false_and]
 · rw [if_neg h]
   cases tk[tok]? with
   | none => rfl
   | some o =>
    cases o with
    | none => rfl
    | some p => simp only [h,false_and]
theorem zb8t (n t' t sz bytes tok t0:Nat) (xs:List TV):apB (some (some (n,t'))) t sz bytes tok t0 xs d K fr tk τ = (((xs.all (fun e => e.cells.length == sz && e.pure) = true ∧ xs.length * bytes ≤ 140737488355328 ∧ xs.length ≤ maxLen) ∧ n = 0 ∧ t0 = t ∧ sz = 1 ∧ xs ≠ []) ∧ K (dh fr d (.sla tok xs)) (tk.set tok (some (xs.length,t))) τ):=rfl
def asK (t:Nat) (s x:TV) (d:Option Nat) (K:ak) (fr:TF) (tk:TK) (τ:TH):Prop:=match x with | .str b => apK t 1 1 s (some (az b)) d K fr tk τ | _ => False
theorem zcdp (t:Nat) (s x:Operand):tG Γ dr (.appendS t s x) m d K fr tk τ = asK t (tO fr s) (tO fr x) d K fr tk τ:=by
 simp only [tG,tOp,asK,apK]
 cases tO fr x with
 | str b => simp only; cases zaqa t 1 1 (tO fr s) (az b) tk <;> rfl
 | _ => rfl
theorem zbpm (t:Nat) (s:TV) (b:ByteArray):asK t s (.str b) d K fr tk τ = apK t 1 1 s (some (az b)) d K fr tk τ:=rfl
def tbK (mu:Bool) (t:Nat) (x:TV) (d:Option Nat) (K:ak) (fr:TF) (tk:TK) (τ:TH):Prop:=match x with | .str s => (bif mu then K (dh fr d (.slm τ.next 0 s.size 1)) tk (τ.push ⟨t,az s⟩) else K (dh fr d (.sl (az s))) tk τ) | _ => False
theorem zbzo (t:Nat) (x:Operand):tG Γ dr (.toBytes t x) 0 d K fr tk τ = tbK false t (tO fr x) d K fr tk τ:=by
 simp only [tG,tOp,tbK]
 cases tO fr x <;> rfl
theorem zbzp (t:Nat) (x:Operand):tG Γ dr (.toBytes t x) 1 d K fr tk τ = tbK true t (tO fr x) d K fr tk τ:=by
 simp only [tG,tOp,tbK]
 cases tO fr x <;> rfl
def tbA (t:Nat) (x:TV) (d:Option Nat) (K:ak) (fr:TF) (tk:TK) (τ:TH):Prop:=match x with | .str s => K (dh fr d (if s.size = 0 then .slb tk.length t else .sla tk.length (az s))) (tk ++ [some (s.size,t)]) τ | _ => False
theorem zbzq (t:Nat) (x:Operand):tG Γ dr (.toBytes t x) 2 d K fr tk τ = tbA t (tO fr x) d K fr tk τ:=by
 simp only [tG,tOp,tbA]
 cases tO fr x <;> rfl
theorem zbob (t:Nat) (s:ByteArray):tbA t (.str s) d K fr tk τ = K (dh fr d (if s.size = 0 then .slb tk.length t else .sla tk.length (az s))) (tk ++ [some (s.size,t)]) τ:=rfl
theorem zboa (mu:Bool) (t:Nat) (s:ByteArray):tbK mu t (.str s) d K fr tk τ = (bif mu then K (dh fr d (.slm τ.next 0 s.size 1)) tk (τ.push ⟨t,az s⟩) else K (dh fr d (.sl (az s))) tk τ):=rfl
theorem zbpq (t:Nat):tO fr (.tmp t) = lkp fr t:=rfl
theorem zbjk (k:IntKind) (n:Int):tO fr (.const (.int k n)) = .int k n:=rfl
theorem zbeu (c:Bool):tO fr (.const (.bool c)) = .bool c:=rfl
theorem zbjj (s:ByteArray):tO fr (.const (.string s)) = .str s:=rfl
theorem zbeq:tO fr (.const (.pointer none)) = .nilP:=rfl
theorem zbep:tO fr (.const (.slice none 0 0)) = .slz:=rfl
theorem zber:tO fr (.const (.map none)) = .nilM:=rfl
theorem zbet:tO fr (.const .nilFunc) = .nilF:=rfl
theorem zbes:tO fr (.const .nilIface) = .nilI:=rfl
theorem zbji (f:FuncId):tO fr (.func f) = .func f [] []:=rfl
theorem zbjl (cs:List Value):tO fr (.const (.agg cs.toArray)) = .agg (cs.map ofS):=rfl
theorem zbbx (k:IntKind) (n:Int):ofS (.int k n) = .int k n:=rfl
theorem zcay (c:Bool):ofS (.bool c) = .bool c:=rfl
theorem zbbw (s:ByteArray):ofS (.string s) = .str s:=rfl
theorem zcbw:ofS (.pointer none) = .nilP:=rfl
theorem zcbx:ofS (.slice none 0 0) = .slz:=rfl
theorem zcbv:ofS (.map none) = .nilM:=rfl
theorem zcaz:ofS .nilFunc = .nilF:=rfl
theorem zcbu:ofS .nilIface = .nilI:=rfl
theorem zbck (t:Nat) (v:TV) (l:TF):lkp ((t,v) :: l) t = v:=by simp [lkp]
theorem zcan (t k:Nat) (v:TV) (l:TF) (h:(t = k) = False):lkp ((k,v) :: l) t = lkp l t:=by simp [lkp,h]
theorem zbyu (t:Nat) (v:TV):dh fr (some t) v = (t,v) :: fr:=rfl
theorem zbyt (v:TV):dh fr none v = fr:=rfl
theorem zbh1:sel lv fr = lv.map fun t => (t,lkp fr t):=rfl
theorem zb8x (k:Nat):zbfb k [] = []:=rfl
theorem zbwk (k:Nat) (v:TV) (l:List TV):zbfb k (v :: l) = (k,v) :: zbfb (k + 1) l:=rfl
end
theorem zb1s  :TV.cells  TV.undef = [TV.undef ]:=rfl
theorem zb0j  (b:Bool):TV.cells  (TV.bool b) = [TV.bool b]:=rfl
theorem zbwx  (k:IntKind) (n:Int):TV.cells  (TV.int k n) = [TV.int k n]:=rfl
theorem zbw4  (s:ByteArray):TV.cells  (TV.str s) = [TV.str s]:=rfl
theorem zb0o  :TV.cells  TV.nilP = [TV.nilP ]:=rfl
theorem zbwy  (id off:Nat):TV.cells  (TV.ptr id off) = [TV.ptr id off]:=rfl
theorem zb0p  (cs:List TV) (off:Nat):TV.cells  (TV.rptr cs off) = [TV.rptr cs off]:=rfl
theorem zbw3  :TV.cells  TV.slz = [TV.slz ]:=rfl
theorem zb9u  (l:List TV):TV.cells  (TV.sl l) = [TV.sl l]:=rfl
theorem zbwz  (k:Nat) (l:List TV):TV.cells  (TV.sla k l) = [TV.sla k l]:=rfl
theorem zbw0  (k:Nat) (t:TypeId):TV.cells  (TV.slb k t) = [TV.slb k t]:=rfl
theorem zbw2  (t:TypeId) (l:List TV):TV.cells  (TV.slo t l) = [TV.slo t l]:=rfl
theorem zbw1  (id off n sz:Nat):TV.cells  (TV.slm id off n sz) = [TV.slm id off n sz]:=rfl
theorem zb0n  :TV.cells  TV.nilM = [TV.nilM ]:=rfl
theorem zb0l  :TV.cells  TV.nilF = [TV.nilF ]:=rfl
theorem zb0k  (f:FuncId) (a b:List TV):TV.cells  (TV.func f a b) = [TV.func f a b]:=rfl
theorem zb0m  :TV.cells  TV.nilI = [TV.nilI ]:=rfl
theorem zbww  (cs:List TV):TV.cells  (TV.agg cs) = cs:=rfl
theorem zbwn  (cs:List TV):TV.cells  (TV.tup cs) = [TV.tup cs]:=rfl
theorem zbxl  :TV.one  TV.undef = false:=rfl
theorem zcby  (b:Bool):TV.one  (TV.bool b) = true:=rfl
theorem zbbu  (k:IntKind) (n:Int):TV.one  (TV.int k n) = true:=rfl
theorem zbbn  (s:ByteArray):TV.one  (TV.str s) = true:=rfl
theorem zcb3  :TV.one  TV.nilP = true:=rfl
theorem zbbt  (id off:Nat):TV.one  (TV.ptr id off) = true:=rfl
theorem zca9  (cs:List TV) (off:Nat):TV.one  (TV.rptr cs off) = false:=rfl
theorem zbbo  :TV.one  TV.slz = true:=rfl
theorem zbik  (l:List TV):TV.one  (TV.sl l) = true:=rfl
theorem zbbs  (k:Nat) (l:List TV):TV.one  (TV.sla k l) = true:=rfl
theorem zbbr  (k:Nat) (t:TypeId):TV.one  (TV.slb k t) = true:=rfl
theorem zbbp  (t:TypeId) (l:List TV):TV.one  (TV.slo t l) = true:=rfl
theorem zbbq  (id off n sz:Nat):TV.one  (TV.slm id off n sz) = true:=rfl
theorem zcb2  :TV.one  TV.nilM = true:=rfl
theorem zcb0  :TV.one  TV.nilF = true:=rfl
theorem zcbz  (f:FuncId) (a b:List TV):TV.one  (TV.func f a b) = true:=rfl
theorem zcb1  :TV.one  TV.nilI = true:=rfl
theorem zbbv  (cs:List TV):TV.one  (TV.agg cs) = false:=rfl
theorem zbbm  (cs:List TV):TV.one  (TV.tup cs) = false:=rfl
theorem zb1y  :TV.known  TV.undef = false:=rfl
theorem zbz4  (b:Bool):TV.known  (TV.bool b) = true:=rfl
theorem zbw6  (k:IntKind) (n:Int):TV.known  (TV.int k n) = true:=rfl
theorem zbxd  (s:ByteArray):TV.known  (TV.str s) = true:=rfl
theorem zbz9  :TV.known  TV.nilP = true:=rfl
theorem zbw7  (id off:Nat):TV.known  (TV.ptr id off) = true:=rfl
theorem zb0a  (cs:List TV) (off:Nat):TV.known  (TV.rptr cs off) = true:=rfl
theorem zbxc  :TV.known  TV.slz = true:=rfl
theorem zcad  (l:List TV):TV.known  (TV.sl l) = true:=rfl
theorem zbw8  (k:Nat) (l:List TV):TV.known  (TV.sla k l) = true:=rfl
theorem zbw9  (k:Nat) (t:TypeId):TV.known  (TV.slb k t) = true:=rfl
theorem zbxb  (t:TypeId) (l:List TV):TV.known  (TV.slo t l) = true:=rfl
theorem zbxa  (id off n sz:Nat):TV.known  (TV.slm id off n sz) = true:=rfl
theorem zbz8  :TV.known  TV.nilM = true:=rfl
theorem zbz6  :TV.known  TV.nilF = true:=rfl
theorem zbz5  (f:FuncId) (a b:List TV):TV.known  (TV.func f a b) = true:=rfl
theorem zbz7  :TV.known  TV.nilI = true:=rfl
theorem zbw5  (cs:List TV):TV.known  (TV.agg cs) = true:=rfl
theorem zbxe  (cs:List TV):TV.known  (TV.tup cs) = true:=rfl
theorem zbzv  :TV.canS  TV.undef = TV.undef :=rfl
theorem zbv5  (b:Bool):TV.canS  (TV.bool b) = TV.bool b:=rfl
theorem zb97  (k:IntKind) (n:Int):TV.canS  (TV.int k n) = TV.int k n:=rfl
theorem zb9i  (s:ByteArray):TV.canS  (TV.str s) = TV.str s:=rfl
theorem zbwa  :TV.canS  TV.nilP = TV.nilP :=rfl
theorem zb98  (id off:Nat):TV.canS  (TV.ptr id off) = TV.ptr id off:=rfl
theorem zbwb  (cs:List TV) (off:Nat):TV.canS  (TV.rptr cs off) = TV.rptr cs off:=rfl
theorem zb9h  :TV.canS  TV.slz = .sl []:=rfl
theorem zbdr  (l:List TV):TV.canS  (TV.sl l) = TV.sl l:=rfl
theorem zb99  (k:Nat) (l:List TV):TV.canS  (TV.sla k l) = .sl l:=rfl
theorem zcaa  (k:Nat) (t:TypeId):TV.canS  (TV.slb k t) = .sl []:=rfl
theorem zcac  (t:TypeId) (l:List TV):TV.canS  (TV.slo t l) = TV.slo t l:=rfl
theorem zcab  (id off n sz:Nat):TV.canS  (TV.slm id off n sz) = TV.slm id off n sz:=rfl
theorem zbv9  :TV.canS  TV.nilM = TV.nilM :=rfl
theorem zbv7  :TV.canS  TV.nilF = TV.nilF :=rfl
theorem zbv6  (f:FuncId) (a b:List TV):TV.canS  (TV.func f a b) = TV.func f a b:=rfl
theorem zbv8  :TV.canS  TV.nilI = TV.nilI :=rfl
theorem zb96  (cs:List TV):TV.canS  (TV.agg cs) = TV.agg cs:=rfl
theorem zb9j  (cs:List TV):TV.canS  (TV.tup cs) = TV.tup cs:=rfl
theorem zbzu  :TV.canA  TV.undef = TV.undef :=rfl
theorem zbvy  (b:Bool):TV.canA  (TV.bool b) = TV.bool b:=rfl
theorem zb85  (k:IntKind) (n:Int):TV.canA  (TV.int k n) = TV.int k n:=rfl
theorem zb94  (s:ByteArray):TV.canA  (TV.str s) = TV.str s:=rfl
theorem zbv3  :TV.canA  TV.nilP = TV.nilP :=rfl
theorem zb86  (id off:Nat):TV.canA  (TV.ptr id off) = TV.ptr id off:=rfl
theorem zbv4  (cs:List TV) (off:Nat):TV.canA  (TV.rptr cs off) = TV.rptr cs off:=rfl
theorem zb93  :TV.canA  TV.slz = .sl []:=rfl
theorem zbds  (l:List TV):TV.canA  (TV.sl l) = TV.sl l:=rfl
theorem zb87  (k:Nat) (l:List TV):TV.canA  (TV.sla k l) = .sl l:=rfl
theorem zb88  (k:Nat) (t:TypeId):TV.canA  (TV.slb k t) = .sl []:=rfl
theorem zb9a  (t:TypeId) (l:List TV):TV.canA  (TV.slo t l) = TV.slo t l:=rfl
theorem zb89  (id off n sz:Nat):TV.canA  (TV.slm id off n sz) = TV.slm id off n sz:=rfl
theorem zbv2  :TV.canA  TV.nilM = TV.nilM :=rfl
theorem zbv0  :TV.canA  TV.nilF = TV.nilF :=rfl
theorem zbvz  (f:FuncId) (a b:List TV):TV.canA  (TV.func f a b) = TV.func f a b:=rfl
theorem zbv1  :TV.canA  TV.nilI = TV.nilI :=rfl
theorem zb84  (cs:List TV):TV.canA  (TV.agg cs) = .agg (cs.map TV.canS):=rfl
theorem zb95  (cs:List TV):TV.canA  (TV.tup cs) = TV.tup cs:=rfl
theorem zbzw  :TV.canT  TV.undef = TV.undef :=rfl
theorem zbwc  (b:Bool):TV.canT  (TV.bool b) = TV.bool b:=rfl
theorem zb9l  (k:IntKind) (n:Int):TV.canT  (TV.int k n) = TV.int k n:=rfl
theorem zb9s  (s:ByteArray):TV.canT  (TV.str s) = TV.str s:=rfl
theorem zbwh  :TV.canT  TV.nilP = TV.nilP :=rfl
theorem zb9m  (id off:Nat):TV.canT  (TV.ptr id off) = TV.ptr id off:=rfl
theorem zbwv  (cs:List TV) (off:Nat):TV.canT  (TV.rptr cs off) = TV.rptr cs off:=rfl
theorem zb9r  :TV.canT  TV.slz = .sl []:=rfl
theorem zbdq  (l:List TV):TV.canT  (TV.sl l) = TV.sl l:=rfl
theorem zb9n  (k:Nat) (l:List TV):TV.canT  (TV.sla k l) = .sl l:=rfl
theorem zb9o  (k:Nat) (t:TypeId):TV.canT  (TV.slb k t) = .sl []:=rfl
theorem zb9q  (t:TypeId) (l:List TV):TV.canT  (TV.slo t l) = TV.slo t l:=rfl
theorem zb9p  (id off n sz:Nat):TV.canT  (TV.slm id off n sz) = TV.slm id off n sz:=rfl
theorem zbwg  :TV.canT  TV.nilM = TV.nilM :=rfl
theorem zbwe  :TV.canT  TV.nilF = TV.nilF :=rfl
theorem zbwd  (f:FuncId) (a b:List TV):TV.canT  (TV.func f a b) = TV.func f a b:=rfl
theorem zbwf  :TV.canT  TV.nilI = TV.nilI :=rfl
theorem zb9k  (cs:List TV):TV.canT  (TV.agg cs) = .agg (cs.map TV.canS):=rfl
theorem zb9t  (cs:List TV):TV.canT  (TV.tup cs) = .tup (cs.map TV.canA):=rfl
theorem zb0h  :TV.part  TV.undef = TV.undef :=rfl
theorem zbxm  (b:Bool):TV.part  (TV.bool b) = TV.bool b:=rfl
theorem zcbc  (k:IntKind) (n:Int):TV.part  (TV.int k n) = TV.int k n:=rfl
theorem zcbj  (s:ByteArray):TV.part  (TV.str s) = TV.str s:=rfl
theorem zbxs  :TV.part  TV.nilP = TV.nilP :=rfl
theorem zcbd  (id off:Nat):TV.part  (TV.ptr id off) = TV.ptr id off:=rfl
theorem zbyd  (cs:List TV) (off:Nat):TV.part  (TV.rptr cs off) = TV.rptr cs off:=rfl
theorem zcbi  :TV.part  TV.slz = TV.slz :=rfl
theorem zbbj  (l:List TV):TV.part  (TV.sl l) = TV.sl l:=rfl
theorem zcbe  (k:Nat) (l:List TV):TV.part  (TV.sla k l) = .sl l:=rfl
theorem zcbf  (k:Nat) (t:TypeId):TV.part  (TV.slb k t) = .sl []:=rfl
theorem zcbh  (t:TypeId) (l:List TV):TV.part  (TV.slo t l) = TV.slo t l:=rfl
theorem zcbg  (id off n sz:Nat):TV.part  (TV.slm id off n sz) = TV.slm id off n sz:=rfl
theorem zbxr  :TV.part  TV.nilM = TV.nilM :=rfl
theorem zbxp  :TV.part  TV.nilF = TV.nilF :=rfl
theorem zbxo  (f:FuncId) (a b:List TV):TV.part  (TV.func f a b) = TV.func f a b:=rfl
theorem zbxq  :TV.part  TV.nilI = TV.nilI :=rfl
theorem zcbb  (cs:List TV):TV.part  (TV.agg cs) = TV.agg cs:=rfl
theorem zcbk  (cs:List TV):TV.part  (TV.tup cs) = TV.tup cs:=rfl
theorem zbx5  :TV.put  TV.undef = TV.undef :=rfl
theorem zccs  (b:Bool):TV.put  (TV.bool b) = TV.bool b:=rfl
theorem zbbf  (k:IntKind) (n:Int):TV.put  (TV.int k n) = TV.int k n:=rfl
theorem zba8  (s:ByteArray):TV.put  (TV.str s) = TV.str s:=rfl
theorem zccx  :TV.put  TV.nilP = TV.nilP :=rfl
theorem zbbe  (id off:Nat):TV.put  (TV.ptr id off) = TV.ptr id off:=rfl
theorem zccy  (cs:List TV) (off:Nat):TV.put  (TV.rptr cs off) = TV.rptr cs off:=rfl
theorem zba9  :TV.put  TV.slz = TV.slz :=rfl
theorem zbig  (l:List TV):TV.put  (TV.sl l) = TV.sl l:=rfl
theorem zbbd  (k:Nat) (l:List TV):TV.put  (TV.sla k l) = .sl l:=rfl
theorem zbbc  (k:Nat) (t:TypeId):TV.put  (TV.slb k t) = .sl []:=rfl
theorem zbba  (t:TypeId) (l:List TV):TV.put  (TV.slo t l) = TV.slo t l:=rfl
theorem zbbb  (id off n sz:Nat):TV.put  (TV.slm id off n sz) = TV.slm id off n sz:=rfl
theorem zccw  :TV.put  TV.nilM = TV.nilM :=rfl
theorem zccu  :TV.put  TV.nilF = TV.nilF :=rfl
theorem zcct  (f:FuncId) (a b:List TV):TV.put  (TV.func f a b) = TV.func f a b:=rfl
theorem zccv  :TV.put  TV.nilI = TV.nilI :=rfl
theorem zbbg  (cs:List TV):TV.put  (TV.agg cs) = TV.agg cs:=rfl
theorem zba7  (cs:List TV):TV.put  (TV.tup cs) = TV.tup cs:=rfl
theorem zcb4  :TV.rd  TV.undef = TV.undef :=rfl
theorem zba2  (b:Bool):TV.rd  (TV.bool b) = TV.bool b:=rfl
theorem zbie  (k:IntKind) (n:Int):TV.rd  (TV.int k n) = TV.int k n:=rfl
theorem zbh7  (s:ByteArray):TV.rd  (TV.str s) = TV.str s:=rfl
theorem zbaw  :TV.rd  TV.nilP = TV.nilP :=rfl
theorem zbid  (id off:Nat):TV.rd  (TV.ptr id off) = TV.ptr id off:=rfl
theorem zbav  (cs:List TV) (off:Nat):TV.rd  (TV.rptr cs off) = TV.rptr cs off:=rfl
theorem zbh8  :TV.rd  TV.slz = TV.slz :=rfl
theorem zbon  (l:List TV):TV.rd  (TV.sl l) = TV.sl l:=rfl
theorem zbic  (k:Nat) (l:List TV):TV.rd  (TV.sla k l) = TV.sla k l:=rfl
theorem zbib  (k:Nat) (t:TypeId):TV.rd  (TV.slb k t) = TV.slb k t:=rfl
theorem zbh9  (t:TypeId) (l:List TV):TV.rd  (TV.slo t l) = .sl l:=rfl
theorem zbia  (id off n sz:Nat):TV.rd  (TV.slm id off n sz) = TV.slm id off n sz:=rfl
theorem zbax  :TV.rd  TV.nilM = TV.nilM :=rfl
theorem zbaz  :TV.rd  TV.nilF = TV.nilF :=rfl
theorem zba1  (f:FuncId) (a b:List TV):TV.rd  (TV.func f a b) = TV.func f a b:=rfl
theorem zbay  :TV.rd  TV.nilI = TV.nilI :=rfl
theorem zbif  (cs:List TV):TV.rd  (TV.agg cs) = TV.agg cs:=rfl
theorem zbh6  (cs:List TV):TV.rd  (TV.tup cs) = TV.tup cs:=rfl
theorem zcal  :TV.list  TV.slz = some []:=rfl
theorem zbcl  (l:List TV):TV.list  (TV.sl l) = some l:=rfl
theorem zcak  (k:Nat) (l:List TV):TV.list  (TV.sla k l) = some l:=rfl
theorem zb3f  :TV.pureS  TV.undef = false:=rfl
theorem zb1a  (b:Bool):TV.pureS  (TV.bool b) = true:=rfl
theorem zbyj  (k:IntKind) (n:Int):TV.pureS  (TV.int k n) = true:=rfl
theorem zbxx  (s:ByteArray):TV.pureS  (TV.str s) = true:=rfl
theorem zb1e  :TV.pureS  TV.nilP = true:=rfl
theorem zbyk  (id off:Nat):TV.pureS  (TV.ptr id off) = false:=rfl
theorem zb1f  (cs:List TV) (off:Nat):TV.pureS  (TV.rptr cs off) = false:=rfl
theorem zbxw  :TV.pureS  TV.slz = false:=rfl
theorem zcbl  (l:List TV):TV.pureS  (TV.sl l) = true:=rfl
theorem zbyl  (k:Nat) (l:List TV):TV.pureS  (TV.sla k l) = false:=rfl
theorem zbxt  (k:Nat) (t:TypeId):TV.pureS  (TV.slb k t) = false:=rfl
theorem zbxv  (t:TypeId) (l:List TV):TV.pureS  (TV.slo t l) = false:=rfl
theorem zbxu  (id off n sz:Nat):TV.pureS  (TV.slm id off n sz) = false:=rfl
theorem zb1d  :TV.pureS  TV.nilM = true:=rfl
theorem zb1b  :TV.pureS  TV.nilF = true:=rfl
theorem zb1c  :TV.pureS  TV.nilI = true:=rfl
theorem zbyi  (cs:List TV):TV.pureS  (TV.agg cs) = false:=rfl
theorem zbxy  (cs:List TV):TV.pureS  (TV.tup cs) = false:=rfl
theorem zb3e (f:FuncId):TV.pureS (.func f [] []) = true:=rfl
theorem zb1g  :TV.pure  TV.undef = false:=rfl
theorem zbxz  (b:Bool):TV.pure  (TV.bool b) = true:=rfl
theorem zcbn  (k:IntKind) (n:Int):TV.pure  (TV.int k n) = true:=rfl
theorem zccq  (s:ByteArray):TV.pure  (TV.str s) = true:=rfl
theorem zbx3  :TV.pure  TV.nilP = true:=rfl
theorem zcbo  (id off:Nat):TV.pure  (TV.ptr id off) = false:=rfl
theorem zbx4  (cs:List TV) (off:Nat):TV.pure  (TV.rptr cs off) = false:=rfl
theorem zcbt  :TV.pure  TV.slz = false:=rfl
theorem zbbh  (l:List TV):TV.pure  (TV.sl l) = true:=rfl
theorem zcbp  (k:Nat) (l:List TV):TV.pure  (TV.sla k l) = false:=rfl
theorem zcbq  (k:Nat) (t:TypeId):TV.pure  (TV.slb k t) = false:=rfl
theorem zcbs  (t:TypeId) (l:List TV):TV.pure  (TV.slo t l) = false:=rfl
theorem zcbr  (id off n sz:Nat):TV.pure  (TV.slm id off n sz) = false:=rfl
theorem zbx2  :TV.pure  TV.nilM = true:=rfl
theorem zbx0  :TV.pure  TV.nilF = true:=rfl
theorem zbx1  :TV.pure  TV.nilI = true:=rfl
theorem zcbm  (cs:List TV):TV.pure  (TV.agg cs) = cs.all TV.pureS:=rfl
theorem zccr  (cs:List TV):TV.pure  (TV.tup cs) = false:=rfl
theorem zb3l (n:Nat) :TV.under n TV.undef = true:=by simp [TV.under]
theorem zcaq (n m:Nat) :TV.lt n m TV.undef = true:=by simp [TV.lt]
theorem zb01 (n:Nat) (b:Bool):TV.under n (TV.bool b) = true:=by simp [TV.under]
theorem zbcc (n m:Nat) (b:Bool):TV.lt n m (TV.bool b) = true:=by simp [TV.lt]
theorem zbyy (n:Nat) (k:IntKind) (q:Int):TV.under n (TV.int k q) = true:=by simp [TV.under]
theorem zbiz (n m:Nat) (k:IntKind) (q:Int):TV.lt n m (TV.int k q) = true:=by simp [TV.lt]
theorem zby5 (n:Nat) (s:ByteArray):TV.under n (TV.str s) = true:=by simp [TV.under]
theorem zbis (n m:Nat) (s:ByteArray):TV.lt n m (TV.str s) = true:=by simp [TV.lt]
theorem zb06 (n:Nat) :TV.under n TV.nilP = true:=by simp [TV.under]
theorem zbb5 (n m:Nat) :TV.lt n m TV.nilP = true:=by simp [TV.lt]
theorem zbyz (n:Nat) (id off:Nat):TV.under n (TV.ptr id off) = decide (id < n):=by simp [TV.under]
theorem zbiy (n m:Nat) (id off:Nat):TV.lt n m (TV.ptr id off) = decide (id < n):=by simp [TV.lt]
theorem zb07 (n:Nat) (cs:List TV) (off:Nat):TV.under n (TV.rptr cs off) = true:=by simp [TV.under]
theorem zbb4 (n m:Nat) (cs:List TV) (off:Nat):TV.lt n m (TV.rptr cs off) = true:=by simp [TV.lt]
theorem zby4 (n:Nat) :TV.under n TV.slz = true:=by simp [TV.under]
theorem zbit (n m:Nat) :TV.lt n m TV.slz = true:=by simp [TV.lt]
theorem zcc9 (n:Nat) (l:List TV):TV.under n (TV.sl l) = true:=by simp [TV.under]
theorem zbo0 (n m:Nat) (l:List TV):TV.lt n m (TV.sl l) = true:=by simp [TV.lt]
theorem zby0 (n:Nat) (k:Nat) (l:List TV):TV.under n (TV.sla k l) = false:=by simp [TV.under]
theorem zbix (n m:Nat) (k:Nat) (l:List TV):TV.lt n m (TV.sla k l) = decide (k < m):=by simp [TV.lt]
theorem zby1 (n:Nat) (k:Nat) (t:TypeId):TV.under n (TV.slb k t) = false:=by simp [TV.under]
theorem zbiw (n m:Nat) (k:Nat) (t:TypeId):TV.lt n m (TV.slb k t) = decide (k < m):=by simp [TV.lt]
theorem zby3 (n:Nat) (t:TypeId) (l:List TV):TV.under n (TV.slo t l) = true:=by simp [TV.under]
theorem zbiu (n m:Nat) (t:TypeId) (l:List TV):TV.lt n m (TV.slo t l) = true:=by simp [TV.lt]
theorem zby2 (n:Nat) (id off q sz:Nat):TV.under n (TV.slm id off q sz) = decide (id < n):=by simp [TV.under]
theorem zbiv (n m:Nat) (id off q sz:Nat):TV.lt n m (TV.slm id off q sz) = decide (id < n):=by simp [TV.lt]
theorem zb05 (n:Nat) :TV.under n TV.nilM = true:=by simp [TV.under]
theorem zbb6 (n m:Nat) :TV.lt n m TV.nilM = true:=by simp [TV.lt]
theorem zb03 (n:Nat) :TV.under n TV.nilF = true:=by simp [TV.under]
theorem zbb8 (n m:Nat) :TV.lt n m TV.nilF = true:=by simp [TV.lt]
theorem zb02 (n:Nat) (f:FuncId) (a b:List TV):TV.under n (TV.func f a b) = (eo n a && eo n b):=by simp [TV.under]
theorem zbcb (n m:Nat) (f:FuncId) (a b:List TV):TV.lt n m (TV.func f a b) = (ltL n m a && ltL n m b):=by simp [TV.lt]
theorem zb04 (n:Nat) :TV.under n TV.nilI = true:=by simp [TV.under]
theorem zbb7 (n m:Nat) :TV.lt n m TV.nilI = true:=by simp [TV.lt]
theorem zbyx (n:Nat) (cs:List TV):TV.under n (TV.agg cs) = eo n cs:=by simp [TV.under]
theorem zbi0 (n m:Nat) (cs:List TV):TV.lt n m (TV.agg cs) = ltL n m cs:=by simp [TV.lt]
theorem zby6 (n:Nat) (cs:List TV):TV.under n (TV.tup cs) = eo n cs:=by simp [TV.under]
theorem zbir (n m:Nat) (cs:List TV):TV.lt n m (TV.tup cs) = ltL n m cs:=by simp [TV.lt]
theorem zb00 (n:Nat):eo n [] = true:=by simp [eo]
theorem zb3k (n:Nat) (v:TV) (l:List TV):eo n (v :: l) = (v.under n && eo n l):=by simp [eo]
theorem zbcd (n m:Nat):ltL n m [] = true:=by simp [ltL]
theorem zcap (n m:Nat) (v:TV) (l:List TV):ltL n m (v :: l) = (v.lt n m && ltL n m l):=by simp [ltL]
theorem qp {Γ:FuncId → Option TG} {lv:List Nat} {a:TC} {Q:TEx → ak} {fr:TF} {tk:TK} {τ:TH} (h:∀ LQ:TEx → ak,(∀ fr' tk' τ',LQ .normal fr' tk' τ' = zbjc lv tk τ fr' tk' τ' (tW Γ (.loop lv a) Q)) → (LQ .ret = Q .ret) → (∀ id,LQ (.exit id) = Q (.exit id)) → tW Γ a LQ (sel lv fr) tk τ):tW Γ (.loop lv a) Q fr tk τ:=by
 rw [zbkl]
 exact h _ (fun fr' tk' τ' => zbuu Γ fr' tk tk' τ τ' a lv Q) rfl fun _ => rfl
def za4v:List (Nat × TG) → FuncId → Option TG
 | [],_ => none
 | (k,g) :: r,f => if f = k then some g else za4v r f
def zbmu (P:Program) (l:List (Nat × TG)):Prop:=∀ p ∈ l,match p.2 with
 | .code fn => ∃ H,ud P H p.1 = some (fn.n,fn.c.erase,fn.rs)
 | .prim g => ∀ args τ r τ',g args τ = some (r,τ') → zbe7 P p.1 args τ r τ'
theorem zbld {P:Program}:zbmu P []:=fun p hp => by simp at hp
theorem ba {P:Program} {H:List (Nat × DH)} {f n:Nat} {c:TC} {rs:List R} {fz:Bool} (h:ud P H f = some (n,c.erase,rs)) {l:List (Nat × TG)} (k:zbmu P l):zbmu P ((f,.code ⟨n,c,rs,fz⟩) :: l):=fun p hp => by
 rcases List.mem_cons.1 hp with rfl | hp
 · exact ⟨H,h⟩
 · exact k p hp
theorem zbr6 {P:Program} {f:Nat} {g:List TV → TH → Option (TV × TH)} (h:∀ args τ r τ',g args τ = some (r,τ') → zbe7 P f args τ r τ') {l:List (Nat × TG)} (k:zbmu P l):zbmu P ((f,.prim g) :: l):=fun p hp => by
 rcases List.mem_cons.1 hp with rfl | hp
 · exact h
 · exact k p hp
theorem zbwt:∀ {l:List (Nat × TG)} {f:Nat} {g:TG},za4v l f = some g → (f,g) ∈ l
 | [],_,_,h => by cases h
 | (k,g) :: r,f,g',h => by
  simp only [za4v] at h
  split at h
  · rename_i e; injection h with h; subst e h; simp
  · exact List.mem_cons_of_mem _ (zbwt h)
theorem zbgh {P:Program} {l:List (Nat × TG)} (h:zbmu P l):GOK P (za4v l):=fun f => by
 cases hq:za4v l f with
 | none => trivial
 | some g =>
  have:=h _ (zbwt hq)
  cases g with
  | code fn => exact this
  | prim g => exact this
section
variable (τ:TH) (b c:Ob) (id k n:Nat)
def zbly (o:Option Ob) (off:Nat):Option TV:=match o with | some b => (b.cs[off]?).map TV.rd | none => none
def zbu5 (o:Option Ob) (off n:Nat):Option (List TV):=match o with | some b => if off + n ≤ b.cs.length then some (((b.cs.drop off).take n).map TV.rd) else none | none => none
theorem zcc0 (off:Nat):zbfd τ id off = zbly (τ.at id) off:=by unfold zbfd zbly; cases τ.at id <;> rfl
theorem za89 (off:Nat):zae2 τ id off n = zbu5 (τ.at id) off n:=by unfold zae2 zbu5; cases τ.at id <;> rfl
theorem zb0i (t:TypeId) (cs:List TV) (off:Nat):zbly (some ⟨t,cs⟩) off = (cs[off]?).map TV.rd:=rfl
theorem zbyb (t:TypeId) (cs:List TV) (off:Nat):zbu5 (some ⟨t,cs⟩) off n = if off + n ≤ cs.length then some (((cs.drop off).take n).map TV.rd) else none:=rfl
theorem zbwl:(τ.push b).at τ.next = some b:=zbno
theorem zbzs (h:id = τ.next):(τ.push b).at id = some b:=by subst h; exact zbno
theorem zbwm (h:id < τ.next):(τ.push b).at id = τ.at id:=ue h
theorem ag:(τ.push b).next = τ.next + 1:=va
theorem aa:(τ.put id b).next = τ.next:=ik
theorem zbb1:(τ.locked n).next = τ.next:=rfl
theorem zbl1:(τ.locked n).at id = τ.at id:=rfl
theorem ar:(τ.push b).lock = τ.lock:=rfl
theorem af:(τ.put id b).lock = τ.lock:=rfl
theorem zbci:(τ.cut n).lock = τ.lock:=rfl
theorem zbch:(τ.locked n).lock = n:=rfl
theorem zbpl (h:id < τ.next):(τ.put id b).at id = some b:=pv h
theorem zb8z (h:(k = id) = False):(τ.put id b).at k = τ.at k:=uf (by simpa using h)
theorem tc:(τ.put id b).put id c = τ.put id c:=by simp [TH.put]
theorem zbyg (h:id = τ.next):(τ.push b).put id c = τ.push c:=by subst h; simp [TH.put,TH.push,TH.next,List.set_append_right]
theorem zbyh (h:id < τ.next):(τ.push b).put id c = (τ.put id c).push b:=by simp only [TH.put,TH.push,TH.next] at *; rw [List.set_append_left _ _ h]
theorem zb9w (h:n ≤ τ.next):(τ.push b).cut n = τ.cut n:=by simp only [TH.cut,TH.push,TH.next] at *; rw [List.take_append_of_le_length h]
theorem f0 (h:τ.next ≤ n):τ.cut n = τ:=zbuk h
theorem zbzz:(τ.locked k).cut n = (τ.cut n).locked k:=rfl
theorem zb3g:(τ.locked k).push b = (τ.push b).locked k:=rfl
theorem zb1h:(τ.locked k).put id b = (τ.put id b).locked k:=rfl
theorem zb43:(τ.locked k).locked n = τ.locked n:=rfl
theorem zb2p:τ.locked τ.lock = τ:=rfl
end
section
variable (k:IntKind) (x y:Int) (s u:ByteArray)
theorem zbhr:yd .add (.int k x) (.int k y) = some (.int k (k.wrap (x + y))):=by simp [yd,bw,j5,ofS]
theorem zbhd:yd .sub (.int k x) (.int k y) = some (.int k (k.wrap (x - y))):=by simp [yd,bw,j5,ofS]
theorem zbhj:yd .mul (.int k x) (.int k y) = some (.int k (k.wrap (x * y))):=by simp [yd,bw,j5,ofS]
theorem zbhq:yd .and (.int k x) (.int k y) = some (.int k (k.wrap (BitVec.ofInt k.bits x &&& BitVec.ofInt k.bits y).toNat)):=by simp [yd,bw,j5,ofS]
theorem zbn5:yd .or (.int k x) (.int k y) = some (.int k (k.wrap (BitVec.ofInt k.bits x ||| BitVec.ofInt k.bits y).toNat)):=by simp [yd,bw,j5,ofS]
theorem zbhc:yd .xor (.int k x) (.int k y) = some (.int k (k.wrap (BitVec.ofInt k.bits x ^^^ BitVec.ofInt k.bits y).toNat)):=by simp [yd,bw,j5,ofS]
theorem zbhk:yd .lss (.int k x) (.int k y) = some (.bool (decide (x < y))):=by simp [yd,bw,j5,ofS]
theorem zbhl:yd .leq (.int k x) (.int k y) = some (.bool (decide (x ≤ y))):=by simp [yd,bw,j5,ofS]
theorem zbhm:yd .gtr (.int k x) (.int k y) = some (.bool (decide (y < x))):=by simp [yd,bw,j5,ofS]
theorem zbhn:yd .geq (.int k x) (.int k y) = some (.bool (decide (y ≤ x))):=by simp [yd,bw,j5,ofS]
theorem zbho:yd .eql (.int k x) (.int k y) = some (.bool (decide (x = y))):=by simp [yd,bw,j5,ofS]; rfl
theorem zbhi:yd .neq (.int k x) (.int k y) = some (.bool (decide (¬ x = y))):=by simp [yd,bw,j5,ofS]; rfl
theorem zbhh:yd .quo (.int k x) (.int k y) = if y = 0 then none else some (.int k (k.wrap (x.tdiv y))):=by simp [yd,bw,j5,ofS]; split <;> simp [ofS]
theorem zbhg:yd .rem (.int k x) (.int k y) = if y = 0 then none else some (.int k (x.tmod y)):=by simp [yd,bw,j5,ofS]; split <;> simp [ofS]
theorem zbhf (j:IntKind):yd .shl (.int k x) (.int j y) = if y < 0 then none else some (.int k (k.wrap (x * 2 ^ (Nat.min y.toNat k.bits)))):=by simp [yd,bw,zbjw,ofS]; split <;> simp [ofS]
theorem zbhe (j:IntKind):yd .shr (.int k x) (.int j y) = if y < 0 then none else some (.int k (x.fdiv (2 ^ (Nat.min y.toNat k.bits)))):=by simp [yd,bw,zbjw,ofS]; split <;> simp [ofS]
theorem zbhp:yd .add (.str s) (.str u) = if 9223372036854775807 < ((s.size + u.size:Nat):Int) then none else some (.str (s ++ u)):=by
 have e:IntKind.i64.max = 9223372036854775807:=by decide
 simp only [yd,zbah,e]
 split
 · rfl
 · rfl
theorem zb27 {s u:ByteArray}:s.toList = u.toList ↔ s = u:=by
 constructor
 · intro h
   rw [ByteArray.toList_eq,ByteArray.toList_eq] at h
   cases s; cases u; simp_all
 · rintro rfl; rfl
theorem za9t:yd .eql (.str s) (.str u) = some (.bool (decide (s = u))):=by simp only [yd,zbah,Option.map_some,ofS]; congr 2; by_cases h:s = u <;> simp [h,zb27]
theorem za9s:yd .neq (.str s) (.str u) = some (.bool (decide (¬ s = u))):=by simp only [yd,zbah,Option.map_some,ofS]; congr 2; by_cases h:s = u <;> simp [h,zb27]
theorem zbg3 (b:Bool):tun .not (.bool b) = some (.bool !b):=rfl
def zbrt (k:IntKind) (x:Int):Int:=k.wrap (BitVec.ofInt k.bits (if k.signed then -1 else k.max) ^^^ BitVec.ofInt k.bits x).toNat
theorem zbg2:tun .xor (.int k x) = some (.int k (zbrt k x)):=rfl
theorem zbg4:tun .neg (.int k x) = some (.int k (k.wrap (0 - x))):=rfl
end
theorem zb1x (c:Prop) [Decidable c] (v:TV) (d:Option Nat) (K:ak) (fr:TF) (tk:TK) (τ:TH):pK (if c then none else some v) d K fr tk τ = (¬ c ∧ K (dh fr d v) tk τ):=by unfold pK; by_cases h:c <;> simp [h]
theorem zbb9 {g n k:Nat} (h:g < n):(g < n + k) = True:=by simp; omega
theorem zbcq {g n k:Nat} (h:g ≤ n):(g ≤ n + k) = True:=by simp; omega
theorem zbb3 (n k:Nat):(n < n + k) = (0 < k):=by simp
theorem zbca (n j k:Nat):(n + j < n + k) = (j < k):=by simp
theorem zbcp (n k:Nat):(n ≤ n + k) = True:=by simp
theorem zbcr (n j k:Nat):(n + j ≤ n + k) = (j ≤ k):=by simp
theorem zbdk (n j k:Nat):(n + j = n + k) = (j = k):=by simp
theorem zb1v (n k:Nat):(n = n + k) = (k = 0):=by simp
theorem zb4e (n k:Nat):(n + k = n) = (k = 0):=by simp
theorem zb4j (n:Nat):(n < n) = False:=by simp
theorem zbej (n j k:Nat):n + j + k = n + (j + k):=Nat.add_assoc n j k
theorem zcci (i o j p:Nat):TV.same (.ptr i o) (.ptr j p) = (i == j && o == p):=rfl
theorem zcch (k j:IntKind) (n m:Int):TV.same (.int k n) (.int j m) = (decide (k = j) && decide (n = m)):=rfl
theorem zby8 (a b:Bool):TV.same (.bool a) (.bool b) = (a == b):=rfl
theorem zccj (a b:ByteArray):TV.same (.str a) (.str b) = decide (a = b):=rfl
theorem zby9 (f g:FuncId) (a b c d:List TV):TV.same (.func f a b) (.func g c d) = (decide (f = g) && (zbe8 a c && zbe8 b d)):=rfl
theorem zby7:zbe8 [] [] = true:=rfl
theorem zb0q (v w:TV) (r s:List TV):zbe8 (v :: r) (w :: s) = (v.same w && zbe8 r s):=rfl
theorem zbya (fr:TF) (τ:TH) (d:Nat) (i:I) (g:Option (Nat × Bool)):zbp2 ⟨some d,i,g⟩ fr τ = zbrq (zbna i fr τ) (lkp fr d):=rfl
theorem zbx6 (fr:TF) (τ:TH) (x:Operand):zbna (.load1 x) fr τ = rdO (tO fr x) τ:=rfl
theorem zba3 (τ:TH) (id off:Nat):rdO (.ptr id off) τ = rdB (τ.at id) off:=rfl
theorem zccz (t:TypeId) (cs:List TV) (off:Nat):rdB (some ⟨t,cs⟩) off = (cs[off]?).map TV.rd:=rfl
theorem zbyc (v w:TV):zbrq (some v) w = v.same w:=rfl
theorem zb9y:decide True = true:=rfl
theorem zb9x:decide False = false:=rfl
theorem TT0:type_of% (ai (ai (ai (ai @zbjf @zbjg) (ai @zbpo @zbpp)) (ai (ai @zb8r @zcdf) (ai @zbyn @za9w))) (ai (ai (ai @zcdi @za9x) (ai @zcdg @zcdh)) (ai (ai @zbek @zbpn) (ai @zbjh @zbem)))):=(ai (ai (ai (ai @zbjf @zbjg) (ai @zbpo @zbpp)) (ai (ai @zb8r @zcdf) (ai @zbyn @za9w))) (ai (ai (ai @zcdi @za9x) (ai @zcdg @zcdh)) (ai (ai @zbek @zbpn) (ai @zbjh @zbem))))
theorem TT1:type_of% (ai (ai (ai (ai @zbel @zbd1) (ai @za9e @za9d)) (ai (ai @za9f @zb81) (ai @zb80 @zbvw))) (ai (ai (ai @zb82 @zbuu) (ai @zbce @zbcf)) (ai (ai @zbd7 @zbh2) (ai @zbh3 @zbaj)))):=(ai (ai (ai (ai @zbel @zbd1) (ai @za9e @za9d)) (ai (ai @za9f @zb81) (ai @zb80 @zbvw))) (ai (ai (ai @zb82 @zbuu) (ai @zbce @zbcf)) (ai (ai @zbd7 @zbh2) (ai @zbh3 @zbaj))))
theorem TT2:type_of% (ai (ai (ai (ai @zbak @zca0) (ai @zccf @zbg6)) (ai (ai @zbg7 @zbg5) (ai @zb4n @zb55))) (ai (ai (ai @zbzy @zb29) (ai @zb0x @zb0y)) (ai (ai @zba5 @zba4) (ai @zbhv @za91)))):=(ai (ai (ai (ai @zbak @zca0) (ai @zccf @zbg6)) (ai (ai @zbg7 @zbg5) (ai @zb4n @zb55))) (ai (ai (ai @zbzy @zb29) (ai @zb0x @zb0y)) (ai (ai @zba5 @zba4) (ai @zbhv @za91))))
theorem TT3:type_of% (ai (ai (ai (ai @za90 @za93) (ai @zcdb @zcdc)) (ai (ai @zbo8 @zbpb) (ai @zbo9 @zbpa))) (ai (ai (ai @zbi5 @zbjt) (ai @zbe4 @zcc2)) (ai (ai @zbyq @zbzh) (ai @za9m @zcc7)))):=(ai (ai (ai (ai @za90 @za93) (ai @zcdb @zcdc)) (ai (ai @zbo8 @zbpb) (ai @zbo9 @zbpa))) (ai (ai (ai @zbi5 @zbjt) (ai @zbe4 @zcc2)) (ai (ai @zbyq @zbzh) (ai @za9m @zcc7))))
theorem TT4:type_of% (ai (ai (ai (ai @zbyr @za9l) (ai @zcc3 @za9h)) (ai (ai @zcc6 @zbg9) (ai @za9n @za9k))) (ai (ai (ai @zcc4 @za9i) (ai @zcc5 @za9j)) (ai (ai @zbe3 @zbe2) (ai @zb9c @zbdm)))):=(ai (ai (ai (ai @zbyr @za9l) (ai @zcc3 @za9h)) (ai (ai @zcc6 @zbg9) (ai @za9n @za9k))) (ai (ai (ai @zcc4 @za9i) (ai @zcc5 @za9j)) (ai (ai @zbe3 @zbe2) (ai @zb9c @zbdm))))
theorem TT5:type_of% (ai (ai (ai (ai @zbbk @zbii) (ai @zcba @zbux)) (ai (ai @zbps @zbjo) (ai @zbjp @zcaw))) (ai (ai (ai @zbjn @zbbi) (ai @zbez @zbct)) (ai (ai @zcae @zbex) (ai @zbcs @zcaf)))):=(ai (ai (ai (ai @zbbk @zbii) (ai @zcba @zbux)) (ai (ai @zbps @zbjo) (ai @zbjp @zcaw))) (ai (ai (ai @zbjn @zbbi) (ai @zbez @zbct)) (ai (ai @zcae @zbex) (ai @zbcs @zcaf))))
theorem TT6:type_of% (ai (ai (ai (ai @zb9g @zcav) (ai @zbxk @zbxj)) (ai (ai @zbpy @zbpw) (ai @zbja @zbe0))) (ai (ai (ai @zb25 @zb0u) (ai @zb26 @zb0w)) (ai (ai @zbys @zb0v) (ai @zb24 @zb23)))):=(ai (ai (ai (ai @zb9g @zcav) (ai @zbxk @zbxj)) (ai (ai @zbpy @zbpw) (ai @zbja @zbe0))) (ai (ai (ai @zb25 @zb0u) (ai @zb26 @zb0w)) (ai (ai @zbys @zb0v) (ai @zb24 @zb23))))
theorem TT7:type_of% (ai (ai (ai (ai @zb22 @zcew) (ai @zbjs @zbdp)) (ai (ai @zbe1 @zb9v) (ai @zb1k @zbcn))) (ai (ai (ai @zcaj @zcb7) (ai @zbx8 @zbas)) (ai (ai @zbx9 @zcb8) (ai @zbat @zbam)))):=(ai (ai (ai (ai @zb22 @zcew) (ai @zbjs @zbdp)) (ai (ai @zbe1 @zb9v) (ai @zb1k @zbcn))) (ai (ai (ai @zcaj @zcb7) (ai @zbx8 @zbas)) (ai (ai @zbx9 @zcb8) (ai @zbat @zbam))))
theorem TT8:type_of% (ai (ai (ai (ai @zccd @zcce) (ai @zban @zbh5)) (ai (ai @zbar @zbaq) (ai @zbao @zbap))) (ai (ai (ai @zccc @zcca) (ai @zcb9 @zccb)) (ai (ai @zbau @zbal) (ai @zbdj @zb92)))):=(ai (ai (ai (ai @zccd @zcce) (ai @zban @zbh5)) (ai (ai @zbar @zbaq) (ai @zbao @zbap))) (ai (ai (ai @zccc @zcca) (ai @zcb9 @zccb)) (ai (ai @zbau @zbal) (ai @zbdj @zb92))))
theorem TT9:type_of% (ai (ai (ai (ai @zb9d @zbdi) (ai @zb9e @zbdh)) (ai (ai @zbzl @zbcz) (ai @zca7 @zcds))) (ai (ai (ai @zbi2 @zbcy) (ai @zbcx @zbzm)) (ai (ai @zbo5 @zbzn) (ai @zboh @zbwi)))):=(ai (ai (ai (ai @zb9d @zbdi) (ai @zb9e @zbdh)) (ai (ai @zbzl @zbcz) (ai @zca7 @zcds))) (ai (ai (ai @zbi2 @zbcy) (ai @zbcx @zbzm)) (ai (ai @zbo5 @zbzn) (ai @zboh @zbwi))))
theorem zceu:type_of% (ai (ai (ai (ai @zbhz @zbad) (ai @zbac @zbn6)) (ai (ai @zbn8 @zbn7) (ai @zbn9 @zbb2))) (ai (ai (ai @zbjq @zbi1) (ai @zbjr @zcah)) (ai (ai @zbco @zcag) (ai @zcai @zbpt)))):=(ai (ai (ai (ai @zbhz @zbad) (ai @zbac @zbn6)) (ai (ai @zbn8 @zbn7) (ai @zbn9 @zbb2))) (ai (ai (ai @zbjq @zbi1) (ai @zbjr @zcah)) (ai (ai @zbco @zcag) (ai @zcai @zbpt))))
theorem zcet:type_of% (ai (ai (ai (ai @zbio @zbpu) (ai @zbip @zb9f)) (ai (ai @zcdr @zbpc) (ai @zbe5 @zbyp))) (ai (ai (ai @zb0t @zbsa) (ai @zbsl @zbev)) (ai (ai @zcdj @zbzj) (ai @zccn @zccm)))):=(ai (ai (ai (ai @zbio @zbpu) (ai @zbip @zb9f)) (ai (ai @zcdr @zbpc) (ai @zbe5 @zbyp))) (ai (ai (ai @zb0t @zbsa) (ai @zbsl @zbev)) (ai (ai @zcdj @zbzj) (ai @zccn @zccm))))
theorem zces:type_of% (ai (ai (ai (ai @zbzk @zbo6) (ai @zb1l @zbi3)) (ai (ai @zbpv @zbpd) (ai @zbpx @zbew))) (ai (ai (ai @zbab @zcck) (ai @zbey @za9c)) (ai (ai @zcc8 @zcdm) (ai @zcdl @zb8p)))):=(ai (ai (ai (ai @zbzk @zbo6) (ai @zb1l @zbi3)) (ai (ai @zbpv @zbpd) (ai @zbpx @zbew))) (ai (ai (ai @zbab @zcck) (ai @zbey @za9c)) (ai (ai @zcc8 @zcdm) (ai @zcdl @zb8p))))
theorem zcer:type_of% (ai (ai (ai (ai @zbai @zccg) (ai @zcdq @zbpk)) (ai (ai @zbpj @zbpi) (ai @zb0s @zb20))) (ai (ai (ai @zcdt @zcdu) (ai @zcdv @zboz)) (ai (ai @zboy @zb9b) (ai @zcdn @zbeg)))):=(ai (ai (ai (ai @zbai @zccg) (ai @zcdq @zbpk)) (ai (ai @zbpj @zbpi) (ai @zb0s @zb20))) (ai (ai (ai @zcdt @zcdu) (ai @zcdv @zboz)) (ai (ai @zboy @zb9b) (ai @zcdn @zbeg))))
theorem zceq:type_of% (ai (ai (ai (ai @zbeh @zb8s) (ai @zcdo @zbd9)) (ai (ai @zb8y @zbed) (ai @zbef @zb8u))) (ai (ai (ai @zbee @zb8t) (ai @zcdp @zbpm)) (ai (ai @zbzo @zbzp) (ai @zbzq @zbob)))):=(ai (ai (ai (ai @zbeh @zb8s) (ai @zcdo @zbd9)) (ai (ai @zb8y @zbed) (ai @zbef @zb8u))) (ai (ai (ai @zbee @zb8t) (ai @zcdp @zbpm)) (ai (ai @zbzo @zbzp) (ai @zbzq @zbob))))
theorem zcep:type_of% (ai (ai (ai (ai @zboa @zbpq) (ai @zbjk @zbeu)) (ai (ai @zbjj @zbeq) (ai @zbep @zber))) (ai (ai (ai @zbet @zbes) (ai @zbji @zbjl)) (ai (ai @zbbx @zcay) (ai @zbbw @zcbw)))):=(ai (ai (ai (ai @zboa @zbpq) (ai @zbjk @zbeu)) (ai (ai @zbjj @zbeq) (ai @zbep @zber))) (ai (ai (ai @zbet @zbes) (ai @zbji @zbjl)) (ai (ai @zbbx @zcay) (ai @zbbw @zcbw))))
theorem zceo:type_of% (ai (ai (ai (ai @zcbx @zcbv) (ai @zcaz @zcbu)) (ai (ai @zbck @zcan) (ai @zbyu @zbyt))) (ai (ai (ai @zbh1 @zb8x) (ai @zbwk @zb1s)) (ai (ai @zb0j @zbwx) (ai @zbw4 @zb0o)))):=(ai (ai (ai (ai @zcbx @zcbv) (ai @zcaz @zcbu)) (ai (ai @zbck @zcan) (ai @zbyu @zbyt))) (ai (ai (ai @zbh1 @zb8x) (ai @zbwk @zb1s)) (ai (ai @zb0j @zbwx) (ai @zbw4 @zb0o))))
theorem zcen:type_of% (ai (ai (ai (ai @zbwy @zb0p) (ai @zbw3 @zb9u)) (ai (ai @zbwz @zbw0) (ai @zbw2 @zbw1))) (ai (ai (ai @zb0n @zb0l) (ai @zb0k @zb0m)) (ai (ai @zbww @zbwn) (ai @zbxl @zcby)))):=(ai (ai (ai (ai @zbwy @zb0p) (ai @zbw3 @zb9u)) (ai (ai @zbwz @zbw0) (ai @zbw2 @zbw1))) (ai (ai (ai @zb0n @zb0l) (ai @zb0k @zb0m)) (ai (ai @zbww @zbwn) (ai @zbxl @zcby))))
theorem zcem:type_of% (ai (ai (ai (ai @zbbu @zbbn) (ai @zcb3 @zbbt)) (ai (ai @zca9 @zbbo) (ai @zbik @zbbs))) (ai (ai (ai @zbbr @zbbp) (ai @zbbq @zcb2)) (ai (ai @zcb0 @zcbz) (ai @zcb1 @zbbv)))):=(ai (ai (ai (ai @zbbu @zbbn) (ai @zcb3 @zbbt)) (ai (ai @zca9 @zbbo) (ai @zbik @zbbs))) (ai (ai (ai @zbbr @zbbp) (ai @zbbq @zcb2)) (ai (ai @zcb0 @zcbz) (ai @zcb1 @zbbv))))
theorem zcel:type_of% (ai (ai (ai (ai @zbbm @zb1y) (ai @zbz4 @zbw6)) (ai (ai @zbxd @zbz9) (ai @zbw7 @zb0a))) (ai (ai (ai @zbxc @zcad) (ai @zbw8 @zbw9)) (ai (ai @zbxb @zbxa) (ai @zbz8 @zbz6)))):=(ai (ai (ai (ai @zbbm @zb1y) (ai @zbz4 @zbw6)) (ai (ai @zbxd @zbz9) (ai @zbw7 @zb0a))) (ai (ai (ai @zbxc @zcad) (ai @zbw8 @zbw9)) (ai (ai @zbxb @zbxa) (ai @zbz8 @zbz6))))
theorem zcek:type_of% (ai (ai (ai (ai @zbz5 @zbz7) (ai @zbw5 @zbxe)) (ai (ai @zbzv @zbv5) (ai @zb97 @zb9i))) (ai (ai (ai @zbwa @zb98) (ai @zbwb @zb9h)) (ai (ai @zbdr @zb99) (ai @zcaa @zcac)))):=(ai (ai (ai (ai @zbz5 @zbz7) (ai @zbw5 @zbxe)) (ai (ai @zbzv @zbv5) (ai @zb97 @zb9i))) (ai (ai (ai @zbwa @zb98) (ai @zbwb @zb9h)) (ai (ai @zbdr @zb99) (ai @zcaa @zcac))))
theorem zcej:type_of% (ai (ai (ai (ai @zcab @zbv9) (ai @zbv7 @zbv6)) (ai (ai @zbv8 @zb96) (ai @zb9j @zbzu))) (ai (ai (ai @zbvy @zb85) (ai @zb94 @zbv3)) (ai (ai @zb86 @zbv4) (ai @zb93 @zbds)))):=(ai (ai (ai (ai @zcab @zbv9) (ai @zbv7 @zbv6)) (ai (ai @zbv8 @zb96) (ai @zb9j @zbzu))) (ai (ai (ai @zbvy @zb85) (ai @zb94 @zbv3)) (ai (ai @zb86 @zbv4) (ai @zb93 @zbds))))
theorem zcei:type_of% (ai (ai (ai (ai @zb87 @zb88) (ai @zb9a @zb89)) (ai (ai @zbv2 @zbv0) (ai @zbvz @zbv1))) (ai (ai (ai @zb84 @zb95) (ai @zbzw @zbwc)) (ai (ai @zb9l @zb9s) (ai @zbwh @zb9m)))):=(ai (ai (ai (ai @zb87 @zb88) (ai @zb9a @zb89)) (ai (ai @zbv2 @zbv0) (ai @zbvz @zbv1))) (ai (ai (ai @zb84 @zb95) (ai @zbzw @zbwc)) (ai (ai @zb9l @zb9s) (ai @zbwh @zb9m))))
theorem zceh:type_of% (ai (ai (ai (ai @zbwv @zb9r) (ai @zbdq @zb9n)) (ai (ai @zb9o @zb9q) (ai @zb9p @zbwg))) (ai (ai (ai @zbwe @zbwd) (ai @zbwf @zb9k)) (ai (ai @zb9t @zb0h) (ai @zbxm @zcbc)))):=(ai (ai (ai (ai @zbwv @zb9r) (ai @zbdq @zb9n)) (ai (ai @zb9o @zb9q) (ai @zb9p @zbwg))) (ai (ai (ai @zbwe @zbwd) (ai @zbwf @zb9k)) (ai (ai @zb9t @zb0h) (ai @zbxm @zcbc))))
theorem zceg:type_of% (ai (ai (ai (ai @zcbj @zbxs) (ai @zcbd @zbyd)) (ai (ai @zcbi @zbbj) (ai @zcbe @zcbf))) (ai (ai (ai @zcbh @zcbg) (ai @zbxr @zbxp)) (ai (ai @zbxo @zbxq) (ai @zcbb @zcbk)))):=(ai (ai (ai (ai @zcbj @zbxs) (ai @zcbd @zbyd)) (ai (ai @zcbi @zbbj) (ai @zcbe @zcbf))) (ai (ai (ai @zcbh @zcbg) (ai @zbxr @zbxp)) (ai (ai @zbxo @zbxq) (ai @zcbb @zcbk))))
theorem zcef:type_of% (ai (ai (ai (ai @zbx5 @zccs) (ai @zbbf @zba8)) (ai (ai @zccx @zbbe) (ai @zccy @zba9))) (ai (ai (ai @zbig @zbbd) (ai @zbbc @zbba)) (ai (ai @zbbb @zccw) (ai @zccu @zcct)))):=(ai (ai (ai (ai @zbx5 @zccs) (ai @zbbf @zba8)) (ai (ai @zccx @zbbe) (ai @zccy @zba9))) (ai (ai (ai @zbig @zbbd) (ai @zbbc @zbba)) (ai (ai @zbbb @zccw) (ai @zccu @zcct))))
theorem zcee:type_of% (ai (ai (ai (ai @zccv @zbbg) (ai @zba7 @zcb4)) (ai (ai @zba2 @zbie) (ai @zbh7 @zbaw))) (ai (ai (ai @zbid @zbav) (ai @zbh8 @zbon)) (ai (ai @zbic @zbib) (ai @zbh9 @zbia)))):=(ai (ai (ai (ai @zccv @zbbg) (ai @zba7 @zcb4)) (ai (ai @zba2 @zbie) (ai @zbh7 @zbaw))) (ai (ai (ai @zbid @zbav) (ai @zbh8 @zbon)) (ai (ai @zbic @zbib) (ai @zbh9 @zbia))))
theorem zced:type_of% (ai (ai (ai (ai @zbax @zbaz) (ai @zba1 @zbay)) (ai (ai @zbif @zbh6) (ai @zcal @zbcl))) (ai (ai (ai @zcak @zb3f) (ai @zb1a @zbyj)) (ai (ai @zbxx @zb1e) (ai @zbyk @zb1f)))):=(ai (ai (ai (ai @zbax @zbaz) (ai @zba1 @zbay)) (ai (ai @zbif @zbh6) (ai @zcal @zbcl))) (ai (ai (ai @zcak @zb3f) (ai @zb1a @zbyj)) (ai (ai @zbxx @zb1e) (ai @zbyk @zb1f))))
theorem zcec:type_of% (ai (ai (ai (ai @zbxw @zcbl) (ai @zbyl @zbxt)) (ai (ai @zbxv @zbxu) (ai @zb1d @zb1b))) (ai (ai (ai @zb1c @zbyi) (ai @zbxy @zb3e)) (ai (ai @zb1g @zbxz) (ai @zcbn @zccq)))):=(ai (ai (ai (ai @zbxw @zcbl) (ai @zbyl @zbxt)) (ai (ai @zbxv @zbxu) (ai @zb1d @zb1b))) (ai (ai (ai @zb1c @zbyi) (ai @zbxy @zb3e)) (ai (ai @zb1g @zbxz) (ai @zcbn @zccq))))
theorem zceb:type_of% (ai (ai (ai (ai @zbx3 @zcbo) (ai @zbx4 @zcbt)) (ai (ai @zbbh @zcbp) (ai @zcbq @zcbs))) (ai (ai (ai @zcbr @zbx2) (ai @zbx0 @zbx1)) (ai (ai @zcbm @zccr) (ai @zb3l @zcaq)))):=(ai (ai (ai (ai @zbx3 @zcbo) (ai @zbx4 @zcbt)) (ai (ai @zbbh @zcbp) (ai @zcbq @zcbs))) (ai (ai (ai @zcbr @zbx2) (ai @zbx0 @zbx1)) (ai (ai @zcbm @zccr) (ai @zb3l @zcaq))))
theorem zcea:type_of% (ai (ai (ai (ai @zb01 @zbcc) (ai @zbyy @zbiz)) (ai (ai @zby5 @zbis) (ai @zb06 @zbb5))) (ai (ai (ai @zbyz @zbiy) (ai @zb07 @zbb4)) (ai (ai @zby4 @zbit) (ai @zcc9 @zbo0)))):=(ai (ai (ai (ai @zb01 @zbcc) (ai @zbyy @zbiz)) (ai (ai @zby5 @zbis) (ai @zb06 @zbb5))) (ai (ai (ai @zbyz @zbiy) (ai @zb07 @zbb4)) (ai (ai @zby4 @zbit) (ai @zcc9 @zbo0))))
theorem zcd9:type_of% (ai (ai (ai (ai @zby0 @zbix) (ai @zby1 @zbiw)) (ai (ai @zby3 @zbiu) (ai @zby2 @zbiv))) (ai (ai (ai @zb05 @zbb6) (ai @zb03 @zbb8)) (ai (ai @zb02 @zbcb) (ai @zb04 @zbb7)))):=(ai (ai (ai (ai @zby0 @zbix) (ai @zby1 @zbiw)) (ai (ai @zby3 @zbiu) (ai @zby2 @zbiv))) (ai (ai (ai @zb05 @zbb6) (ai @zb03 @zbb8)) (ai (ai @zb02 @zbcb) (ai @zb04 @zbb7))))
theorem zcd8:type_of% (ai (ai (ai (ai @zbyx @zbi0) (ai @zby6 @zbir)) (ai (ai @zb00 @zb3k) (ai @zbcd @zcap))) (ai (ai (ai @zcc0 @za89) (ai @zb0i @zbyb)) (ai (ai @zbwl @zbzs) (ai @zbwm @ag)))):=(ai (ai (ai (ai @zbyx @zbi0) (ai @zby6 @zbir)) (ai (ai @zb00 @zb3k) (ai @zbcd @zcap))) (ai (ai (ai @zcc0 @za89) (ai @zb0i @zbyb)) (ai (ai @zbwl @zbzs) (ai @zbwm @ag))))
theorem zcd7:type_of% (ai (ai (ai (ai @aa @zbb1) (ai @zbl1 @ar)) (ai (ai @af @zbci) (ai @zbch @zbpl))) (ai (ai (ai @zb8z @tc) (ai @zbyg @zbyh)) (ai (ai @zb9w @f0) (ai @zbzz @zb3g)))):=(ai (ai (ai (ai @aa @zbb1) (ai @zbl1 @ar)) (ai (ai @af @zbci) (ai @zbch @zbpl))) (ai (ai (ai @zb8z @tc) (ai @zbyg @zbyh)) (ai (ai @zb9w @f0) (ai @zbzz @zb3g))))
theorem zcd6:type_of% (ai (ai (ai (ai @zb1h @zb43) (ai @zb2p @zbhr)) (ai (ai @zbhd @zbhj) (ai @zbhq @zbn5))) (ai (ai (ai @zbhc @zbhk) (ai @zbhl @zbhm)) (ai (ai @zbhn @zbho) (ai @zbhi @zbhh)))):=(ai (ai (ai (ai @zb1h @zb43) (ai @zb2p @zbhr)) (ai (ai @zbhd @zbhj) (ai @zbhq @zbn5))) (ai (ai (ai @zbhc @zbhk) (ai @zbhl @zbhm)) (ai (ai @zbhn @zbho) (ai @zbhi @zbhh))))
theorem zcd5:type_of% (ai (ai (ai (ai @zbhg @zbhf) (ai @zbhe @zbhp)) (ai (ai @za9t @za9s) (ai @zbg3 @zbg2))) (ai (ai (ai @zbg4 @zb1x) (ai @zbb9 @zbcq)) (ai (ai @zbb3 @zbca) (ai @zbcp @zbcr)))):=(ai (ai (ai (ai @zbhg @zbhf) (ai @zbhe @zbhp)) (ai (ai @za9t @za9s) (ai @zbg3 @zbg2))) (ai (ai (ai @zbg4 @zb1x) (ai @zbb9 @zbcq)) (ai (ai @zbb3 @zbca) (ai @zbcp @zbcr))))
theorem zcd4:type_of% (ai (ai (ai (ai @zbdk @zb1v) (ai @zb4e @zb4j)) (ai (ai @zbej @zcci) (ai @zcch @zby8))) (ai (ai (ai @zccj @zby9) (ai @zby7 @zb0q)) (ai (ai @zbya @zbx6) (ai @zba3 @zccz)))):=(ai (ai (ai (ai @zbdk @zb1v) (ai @zb4e @zb4j)) (ai (ai @zbej @zcci) (ai @zcch @zby8))) (ai (ai (ai @zccj @zby9) (ai @zby7 @zb0q)) (ai (ai @zbya @zbx6) (ai @zba3 @zccz))))
theorem zcd3:type_of% (ai (ai (ai (ai @zbyc @zb9y) (ai @zb9x @List.map_cons.{0,0})) (ai (ai @List.map_nil.{0,0} @List.getD_cons_zero.{0}) (ai @List.getD_cons_succ.{0} @List.getElem?_cons_zero.{0}))) (ai (ai (ai @List.getElem?_cons_succ.{0} @List.length_cons.{0}) (ai @List.length_nil.{0} @List.drop_succ_cons.{0})) (ai (ai @List.drop_zero.{0} @List.take_succ_cons.{0}) (ai @List.take_zero.{0} @List.take_nil.{0})))):=(ai (ai (ai (ai @zbyc @zb9y) (ai @zb9x @List.map_cons.{0,0})) (ai (ai @List.map_nil.{0,0} @List.getD_cons_zero.{0}) (ai @List.getD_cons_succ.{0} @List.getElem?_cons_zero.{0}))) (ai (ai (ai @List.getElem?_cons_succ.{0} @List.length_cons.{0}) (ai @List.length_nil.{0} @List.drop_succ_cons.{0})) (ai (ai @List.drop_zero.{0} @List.take_succ_cons.{0}) (ai @List.take_zero.{0} @List.take_nil.{0}))))
theorem zcd2:type_of% (ai (ai (ai (ai @List.take_length.{0} @List.set_cons_zero.{0}) (ai @List.set_cons_succ.{0} @Option.map_some.{0,0})) (ai (ai @Option.map_none.{0,0} @Option.bind_some.{0,0}) (ai @and_true @true_and))) (ai (ai (ai @Bool.not_true @Bool.not_false) (ai @List.all_cons.{0} @List.all_nil.{0})) (ai (ai @Bool.and_true @Bool.true_and) (ai @Bool.and_self @not_false_eq_true)))):=(ai (ai (ai (ai @List.take_length.{0} @List.set_cons_zero.{0}) (ai @List.set_cons_succ.{0} @Option.map_some.{0,0})) (ai (ai @Option.map_none.{0,0} @Option.bind_some.{0,0}) (ai @and_true @true_and))) (ai (ai (ai @Bool.not_true @Bool.not_false) (ai @List.all_cons.{0} @List.all_nil.{0})) (ai (ai @Bool.and_true @Bool.true_and) (ai @Bool.and_self @not_false_eq_true))))
theorem zcd1:type_of% (ai (ai (ai (ai @Nat.zero_add @Nat.le_refl) (ai @Nat.add_zero @Nat.zero_mul)) (ai (ai @Nat.mul_one @Nat.one_mul) (ai @Int.toNat_zero @Int.toNat_natCast))) (ai (ai (ai @List.nil_append.{0} @List.cons_append.{0}) (ai @List.append_nil.{0} @cond_true.{1})) (ai (ai @cond_false.{1} @if_true.{1}) (ai @if_false.{1} @List.length_map.{0,0})))):=(ai (ai (ai (ai @Nat.zero_add @Nat.le_refl) (ai @Nat.add_zero @Nat.zero_mul)) (ai (ai @Nat.mul_one @Nat.one_mul) (ai @Int.toNat_zero @Int.toNat_natCast))) (ai (ai (ai @List.nil_append.{0} @List.cons_append.{0}) (ai @List.append_nil.{0} @cond_true.{1})) (ai (ai @cond_false.{1} @if_true.{1}) (ai @if_false.{1} @List.length_map.{0,0}))))
theorem zcd0:type_of% (ai (ai (ai @List.length_append.{0} @not_true_eq_false) (ai @decide_eq_true_eq (ai @or_true @true_or))) (ai (ai @or_false (ai @false_or @ne_eq.{1})) (ai @eq_self.{1} (ai @bne_self_eq_false.{0} @beq_self_eq_true.{0})))):=(ai (ai (ai @List.length_append.{0} @not_true_eq_false) (ai @decide_eq_true_eq (ai @or_true @true_or))) (ai (ai @or_false (ai @false_or @ne_eq.{1})) (ai @eq_self.{1} (ai @bne_self_eq_false.{0} @beq_self_eq_true.{0}))))
theorem TT:type_of% (ai (ai (ai (ai (ai @TT0 @TT1) (ai @TT2 (ai @TT3 @TT4))) (ai (ai @TT5 @TT6) (ai @TT7 (ai @TT8 @TT9)))) (ai (ai (ai @zceu @zcet) (ai @zces (ai @zcer @zceq))) (ai (ai @zcep @zceo) (ai @zcen (ai @zcem @zcel))))) (ai (ai (ai (ai @zcek @zcej) (ai @zcei (ai @zceh @zceg))) (ai (ai @zcef @zcee) (ai @zced (ai @zcec @zceb)))) (ai (ai (ai @zcea @zcd9) (ai @zcd8 (ai @zcd7 @zcd6))) (ai (ai @zcd5 (ai @zcd4 @zcd3)) (ai @zcd2 (ai @zcd1 @zcd0)))))):=(ai (ai (ai (ai (ai @TT0 @TT1) (ai @TT2 (ai @TT3 @TT4))) (ai (ai @TT5 @TT6) (ai @TT7 (ai @TT8 @TT9)))) (ai (ai (ai @zceu @zcet) (ai @zces (ai @zcer @zceq))) (ai (ai @zcep @zceo) (ai @zcen (ai @zcem @zcel))))) (ai (ai (ai (ai @zcek @zcej) (ai @zcei (ai @zceh @zceg))) (ai (ai @zcef @zcee) (ai @zced (ai @zcec @zceb)))) (ai (ai (ai @zcea @zcd9) (ai @zcd8 (ai @zcd7 @zcd6))) (ai (ai @zcd5 (ai @zcd4 @zcd3)) (ai @zcd2 (ai @zcd1 @zcd0))))))
end Go.Proofs.Ytgkkienmocpnbaa.Sh
