import Derived.Test.YtgkkienmocpnbaaTv8
set_option linter.unusedVariables false
set_option linter.unusedSimpArgs false
/- The tree level: evaluation, step by step: printed by a program of ours. -/
namespace Go.Proofs.Ytgkkienmocpnbaa.Sh
open Go Go.RowKit
def pK (o:Option TV) (d:Option Nat) (K:ak) (fr:TF) (tk:TK) (τ:TH):Prop:=match o with | some v => K (dh fr d v) tk τ | none => False
def zbe9 (lv:List Nat) (tk:TK) (τ:TH) (fr':TF) (tk':TK) (τ':TH) (K:ak):Prop:=if ltL τ.next tk.length (lv.map fun t => lkp fr' t) = true then K (sel lv fr') (tk'.take tk.length) (τ'.cut τ.next) else K (sel lv fr') tk' τ'
def fzK (o:Option TV) (τ:TH) (K:TV → TH → Prop) (τ':TH):Prop:=match o with | some u => K u (τ'.cut τ.next) | none => False
def rtK (o:Option TV) (τ:TH) (K:TV → TH → Prop) (τ':TH):Prop:=match o with | some v => (if v.canT.under τ.next then K v.canT (τ'.cut τ.next) else v.canT.under τ'.next = true ∧ K v.canT τ') | none => False
def pl (l:List ap):List (ap × List Nat):=l.map fun x => (x,[])
def tLD (Γ:FuncId → Option TG):List ap → ak → ak
 | [],K => K
 | ⟨⟨d,i,none⟩,m⟩ :: r,K => fun fr tk τ => tG Γ true i m d (tLD Γ r K) fr tk τ
 | ⟨⟨d,i,some (t,b)⟩,m⟩ :: r,K => fun fr tk τ => gdK Γ true (lkp fr t) b i m d (tLD Γ r K) fr tk τ
section
variable (Γ:FuncId → Option TG) (dr:Bool) (d:Option Nat) (K:ak) (fr fr':TF) (tk tk':TK) (τ τ':TH) (Q:TEx → ak) (a b:TC) (lv:List Nat) (r:List ap) (m:Nat)
theorem zbgn:∀ (l:List ap) (n:Nat) (told:List (Nat × Ins)) (K:ak),tD Γ n (pl l) K told = tLD Γ l K
 | [],n,told,K => rfl
 | ⟨⟨d,i,g⟩,m⟩ :: r,n,told,K => by
  funext fr tk τ
  cases g with
  | none =>
   show tG Γ true i m d (pnK _ n fr τ told [] (tD Γ (n + 1) (pl r) K)) fr tk τ = tG Γ true i m d (tLD Γ r K) fr tk τ
   have q:pnK ⟨⟨d,i,none⟩,m⟩ n fr τ told [] (tD Γ (n + 1) (pl r) K) = tLD Γ r K:=by
    funext fr' tk' τ'
    unfold pnK
    simp [zbgn r]
   rw [q]
  | some tb =>
   obtain ⟨t,b⟩:=tb
   show gdK Γ true (lkp fr t) b i m d (pnK _ n fr τ told [] (tD Γ (n + 1) (pl r) K)) fr tk τ = gdK Γ true (lkp fr t) b i m d (tLD Γ r K) fr tk τ
   have q:pnK ⟨⟨d,i,some (t,b)⟩,m⟩ n fr τ told [] (tD Γ (n + 1) (pl r) K) = tLD Γ r K:=by
    funext fr' tk' τ'
    unfold pnK
    simp [zbgn r]
   rw [q]
def tSp (Γ:FuncId → Option TG) (o:Option ap) (K:ak):ak:=fun fr tk τ => match o with
 | some ⟨⟨d,i,none⟩,m⟩ => tG Γ true i m d K fr tk τ
 | some ⟨⟨d,i,some (t,b)⟩,m⟩ => gdK Γ true (lkp fr t) b i m d K fr tk τ
 | none => False
def tTp (Γ:FuncId → Option TG) (lv:List Nat) (l:List ap):DTr Nat → ak → ak
 | .nil,K => K
 | .cons k r,K => tSp Γ l[k]? (tTp Γ lv l r K)
 | .alt k r j q,K => fun fr tk τ => tSp Γ l[k]? (tTp Γ lv l r fun fr1 tk1 τ1 => tSp Γ l[j]? (tTp Γ lv l q fun fr2 tk2 τ2 => (sel lv fr1 = sel lv fr2 ∧ tk1 = tk2 ∧ τ1 = τ2) ∧ K fr1 tk1 τ1) fr tk τ) fr tk τ
theorem zbgk (l:List ap) (k:Nat) (told:List (Nat × Ins)) (K:ak) (K':List (Nat × Ins) → ak) (hK:∀ t,K' t = K):tS Γ (pl l) (pl l)[k]? k told K' = tSp Γ l[k]? K:=by
 have e:(pl l)[k]? = (l[k]?).map fun x => (x,[]):=by unfold pl; rw [List.getElem?_map]
 rw [e]
 generalize pl l = L
 funext fr tk τ
 cases l[k]? with
 | none => rfl
 | some x =>
  obtain ⟨⟨d,i,g⟩,m⟩:=x
  cases g with
  | none =>
   show tG Γ true i m d (pnT L _ k fr τ told [] K') fr tk τ = tG Γ true i m d K fr tk τ
   have q:pnT L ⟨⟨d,i,none⟩,m⟩ k fr τ told [] K' = K:=by
    funext fr' tk' τ'
    unfold pnT
    simp [hK]
   rw [q]
  | some tb =>
   obtain ⟨t,b⟩:=tb
   show gdK Γ true (lkp fr t) b i m d (pnT L _ k fr τ told [] K') fr tk τ = gdK Γ true (lkp fr t) b i m d K fr tk τ
   have q:pnT L ⟨⟨d,i,some (t,b)⟩,m⟩ k fr τ told [] K' = K:=by
    funext fr' tk' τ'
    unfold pnT
    simp [hK]
   rw [q]
theorem zbbx (l:List ap):∀ (t:DTr Nat) (K:ak) (K':List (Nat × Ins) → ak) (hK:∀ t,K' t = K) (told:List (Nat × Ins)),tT Γ lv (pl l) t K' told = tTp Γ lv l t K
 | .nil,K,K',hK,told => hK told
 | .cons k r,K,K',hK,told => zbgk Γ l k told _ _ fun t => zbbx l r K K' hK t
 | .alt k r j q,K,K',hK,told => by
  funext fr tk τ
  show tS Γ (pl l) (pl l)[k]? k told (tT Γ lv (pl l) r _) fr tk τ = tSp Γ l[k]? (tTp Γ lv l r _) fr tk τ
  refine congrFun (congrFun (congrFun (zbgk Γ l k told _ _ fun t => zbbx l r _ _ (fun t1 => ?_) t) fr) tk) τ
  funext fr1 tk1 τ1
  refine congrFun (congrFun (congrFun (zbgk Γ l j told _ _ fun t => zbbx l q _ _ (fun t2 => ?_) t) fr) tk) τ
  funext fr2 tk2 τ2
  rw [hK]
def zbh8 (Γ:FuncId → Option TG) (l:List ap):List (DTr Nat × List Nat) → ak → ak
 | [],K => K
 | (t,lv) :: r,K => tTp Γ lv l t fun fr' tk' τ' => zbh8 Γ l r K (sel lv fr') tk' τ'
theorem zbdt (l:List ap):∀ (t:List (DTr Nat × List Nat)) (K:ak) (told:List (Nat × Ins)),tSg Γ (pl l) t K told = zbh8 Γ l t K
 | [],K,told => rfl
 | (t,lv) :: r,K,told => zbbx Γ lv l t _ _ (fun t' => by funext fr' tk' τ'; rw [zbdt l r K t']) told
theorem zbfc:tW Γ .skip Q fr tk τ = Q .normal fr tk τ:=zbgf
theorem zbfd (id:Nat):tW Γ (.exit id) Q fr tk τ = Q (.exit id) fr tk τ:=zbgh
theorem zbk6:tW Γ (.ret lv) Q fr tk τ = Q .ret (sel lv fr) tk τ:=zbj0
theorem zbk7:tW Γ (.ops r) Q fr tk τ = tL Γ r (Q .normal) fr tk τ:=zbj1
theorem zb05 (t:List (DTr Nat × List Nat)):tW Γ (.drawT (pl r) t) Q fr tk τ = zbh8 Γ r t (Q .normal) fr tk τ:=by rw [zbbu,zbdt]
theorem zb5p:zbh8 Γ r [] K = K:=rfl
theorem zbti (t:DTr Nat) (q:List (DTr Nat × List Nat)):zbh8 Γ r ((t,lv) :: q) K fr tk τ = tTp Γ lv r t (fun fr1 tk1 τ1 => zbh8 Γ r q K (sel lv fr1) tk1 τ1) fr tk τ:=rfl
theorem zai6:tTp Γ lv r .nil K = K:=rfl
theorem zb5s (k:Nat) (t:DTr Nat):tTp Γ lv r (.cons k t) K = tSp Γ r[k]? (tTp Γ lv r t K):=rfl
theorem zajo (k j:Nat) (t q:DTr Nat):tTp Γ lv r (.alt k t j q) K fr tk τ = tSp Γ r[k]? (tTp Γ lv r t fun fr1 tk1 τ1 => tSp Γ r[j]? (tTp Γ lv r q fun fr2 tk2 τ2 => (sel lv fr1 = sel lv fr2 ∧ tk1 = tk2 ∧ τ1 = τ2) ∧ K fr1 tk1 τ1) fr tk τ) fr tk τ:=rfl
theorem zb5q (i:I):tSp Γ (some ⟨⟨d,i,none⟩,m⟩) K fr tk τ = tG Γ true i m d K fr tk τ:=rfl
theorem zb5r (i:I) (t:Nat) (b:Bool):tSp Γ (some ⟨⟨d,i,some (t,b)⟩,m⟩) K fr tk τ = gdK Γ true (lkp fr t) b i m d K fr tk τ:=rfl
theorem zbaq:tW Γ (.draw (pl r)) Q fr tk τ = tLD Γ r (Q .normal) fr tk τ:=by rw [zbgi,zbgn]
theorem zbk5:tW Γ (.seq a b) Q fr tk τ = tW Γ a (zacw (tW Γ b Q) Q) fr tk τ:=zbjz
theorem zbfe (c:Operand):tW Γ (.cond c a b) Q fr tk τ = cT Γ (tO fr c) a b Q fr tk τ:=zbgj
theorem zbas (id:Nat):tW Γ (.block id lv a) Q fr tk τ = tW Γ a (qa id lv tk τ Q) fr tk τ:=zbbw
theorem zbar:tW Γ (.clean lv a) Q fr tk τ = tW Γ a Q (sel lv fr) tk τ:=zbbv
theorem za98 (c:Bool):cT Γ (.bool c) a b Q fr tk τ = if c = true then tW Γ a Q fr tk τ else tW Γ b Q fr tk τ:=rfl
theorem zacp (n:ak):zacw n Q .normal = n:=rfl
theorem zaa2 (n:ak):zacw n Q .ret = Q .ret:=rfl
theorem zacu (n:ak) (id:Nat):zacw n Q (.exit id) = Q (.exit id):=rfl
theorem zb1f (id:Nat):qa id lv tk τ Q .normal fr' tk' τ' = zbe9 lv tk τ fr' tk' τ' (Q .normal):=by unfold qa zbe9 lm; simp only [true_or,if_true]; split <;> rfl
theorem zb1e (id:Nat):qa id lv tk τ Q (.exit id) fr' tk' τ' = zbe9 lv tk τ fr' tk' τ' (Q .normal):=by unfold qa zbe9 lm; simp only [or_true,if_true]; split <;> rfl
theorem zbqu (id j:Nat) (h:(j = id) = False):qa id lv tk τ Q (.exit j) = Q (.exit j):=by funext fr tk τ; unfold qa; simp [h]
theorem zb1g (id:Nat):qa id lv tk τ Q .ret = Q .ret:=by funext fr tk τ; unfold qa; simp
theorem zbpv (Q:TEx → ak):za8q Γ lv a tk τ Q .normal fr' tk' τ' = zbe9 lv tk τ fr' tk' τ' (tW Γ (.loop lv a) Q):=by simp only [za8q,zbe9,lm]; split <;> rfl
theorem za8o (Q:TEx → ak):za8q Γ lv a tk τ Q .ret = Q .ret:=rfl
theorem za8p (Q:TEx → ak) (id:Nat):za8q Γ lv a tk τ Q (.exit id) = Q (.exit id):=rfl
theorem zbad:zbe9 lv tk τ fr' tk' τ' K = if ltL τ.next tk.length (lv.map fun t => lkp fr' t) = true then K (sel lv fr') (tk'.take tk.length) (τ'.cut τ.next) else K (sel lv fr') tk' τ':=rfl
theorem zbd2 (rs:List R) (K:TV → TH → Prop):zbb6 rs false τ K .ret fr tk τ' = rtK (ek rs fr τ') τ K τ':=by unfold zbb6 rtK; cases ek rs fr τ' <;> simp
theorem zbd3 (rs:List R) (K:TV → TH → Prop):zbb6 rs false τ K .normal fr tk τ' = rtK (ek rs fr τ') τ K τ':=by unfold zbb6 rtK; cases ek rs fr τ' <;> simp
theorem zaq8 (rs:List R) (K:TV → TH → Prop):zbb6 rs true τ K .ret fr tk τ' = fzK ((ek rs fr τ').bind (tfz τ' τ.next)) τ K τ':=by unfold zbb6 fzK; cases h:ek rs fr τ' with | none => simp | some v => simp only [Option.bind_some,or_true,true_and,if_true]; cases tfz τ' τ.next v <;> rfl
theorem zaq9 (rs:List R) (K:TV → TH → Prop):zbb6 rs true τ K .normal fr tk τ' = fzK ((ek rs fr τ').bind (tfz τ' τ.next)) τ K τ':=by unfold zbb6 fzK; cases h:ek rs fr τ' with | none => simp | some v => simp only [Option.bind_some,true_or,true_and,if_true]; cases tfz τ' τ.next v <;> rfl
theorem zb3d (v:TV) (K:TV → TH → Prop):fzK (some v) τ K τ' = K v (τ'.cut τ.next):=rfl
theorem zb4p (v:TV) (K:TV → TH → Prop):rtK (some v) τ K τ' = if v.canT.under τ.next then K v.canT (τ'.cut τ.next) else v.canT.under τ'.next = true ∧ K v.canT τ':=rfl
theorem zbc6 (r:R):ek [r] fr τ = uo fr τ r:=rfl
theorem zbc7:ek [] fr τ = some (.tup []):=rfl
theorem zbc5 (r1 r2:R) (l:List R):ek (r1 :: r2 :: l) fr τ = (o6 fr τ (r1 :: r2 :: l)).map .tup:=rfl
def zbkx (a:Option TV) (b:Option (List TV)):Option (List TV):=match a,b with | some x,some y => some (x :: y) | _,_ => none
theorem zbyg:o6 fr τ [] = some []:=rfl
theorem zbzr (r:R) (l:List R):o6 fr τ (r :: l) = zbkx (uo fr τ r) (o6 fr τ l):=rfl
theorem zbuu (x:TV) (y:List TV):zbkx (some x) (some y) = some (x :: y):=rfl
def ld1 (τ:TH):TV → Option TV | .ptr id off => zbbh τ id off | .rptr cs off => cs[off]? | _ => none
def ldN (n:Nat) (τ:TH):TV → Option TV | .ptr id off => if n = 0 then none else (gq τ id off n).map .agg | .rptr cs off => if off + n ≤ cs.length then some (.agg ((cs.drop off).take n)) else none | _ => none
def rd1 (τ:TH):TV → Option TV | .ptr id off => zbbh τ id off | _ => none
def rdN (n:Nat) (τ:TH):TV → Option TV | .ptr id off => if n = 0 then none else (gq τ id off n).map .agg | _ => none
theorem zbxq (t:Nat):uo fr τ (.tmp t) = some (lkp fr t):=rfl
theorem zbvt (t:Nat):uo fr τ (.cell1 t) = rd1 τ (lkp fr t):=rfl
theorem zbvu (t n:Nat):uo fr τ (.cellN t n) = rdN n τ (lkp fr t):=rfl
theorem zaz7 (id off:Nat):rd1 τ (.ptr id off) = zbbh τ id off:=rfl
theorem zaz6 (n id off:Nat):rdN n τ (.ptr id off) = if n = 0 then none else (gq τ id off n).map .agg:=rfl
theorem zbdv:tL Γ [] K = K:=rfl
theorem zama (i:I):tL Γ (⟨⟨d,i,none⟩,m⟩ :: r) K fr tk τ = tG Γ false i m d (tL Γ r K) fr tk τ:=rfl
theorem zal9 (i:I) (t:Nat) (b:Bool):tL Γ (⟨⟨d,i,some (t,b)⟩,m⟩ :: r) K fr tk τ = gdK Γ false (lkp fr t) b i m d (tL Γ r K) fr tk τ:=rfl
theorem zamr:tLD Γ [] K = K:=rfl
theorem zb5l (i:I):tLD Γ (⟨⟨d,i,none⟩,m⟩ :: r) K fr tk τ = tG Γ true i m d (tLD Γ r K) fr tk τ:=rfl
theorem zb5m (i:I) (t:Nat) (b:Bool):tLD Γ (⟨⟨d,i,some (t,b)⟩,m⟩ :: r) K fr tk τ = gdK Γ true (lkp fr t) b i m d (tLD Γ r K) fr tk τ:=rfl
theorem zbko (i:I):gdK Γ dr (.bool true) true i m d K fr tk τ = tG Γ dr i m d K fr tk τ:=by simp [gdK]
theorem zbkr (i:I):gdK Γ dr (.bool false) false i m d K fr tk τ = tG Γ dr i m d K fr tk τ:=by simp [gdK]
theorem zbkp (i:I):gdK Γ dr (.bool true) false i m d K fr tk τ = K (dh fr d (.tup [])) tk τ:=by simp [gdK]
theorem zbkq (i:I):gdK Γ dr (.bool false) true i m d K fr tk τ = K (dh fr d (.tup [])) tk τ:=by simp [gdK]
theorem zbe4 (i:I) (b:Bool):gdK Γ dr (.tup []) b i m d K fr tk τ = K (dh fr d (.tup [])) tk τ:=rfl
theorem zbfq (f:FuncId) (args:List Operand):tG Γ dr (.call f args) 0 d K fr tk τ = d9 Γ dr f (args.map fun a => (tO fr a).canT) d K fr tk τ:=rfl
theorem zba9 (f:FuncId) (args:List Operand):tG Γ dr (.call f args) 1 d K fr tk τ = zbm5 Γ f (fi (tfz τ 0) (args.map (tO fr))) d K fr tk τ:=rfl
theorem zb5c (f:TV → Option TV):fi f [] = some []:=rfl
def zbqt (a:Option TV) (b:Option (List TV)):Option (List TV):=match a,b with | some x,some y => some (x :: y) | _,_ => none
theorem zbtl (f:TV → Option TV) (v:TV) (l:List TV):fi f (v :: l) = zbqt (f v) (fi f l):=rfl
theorem zbub (v:TV) (l:List TV):zbqt (some v) (some l) = some (v :: l):=rfl
theorem zae0 (n0:Nat) (cs:List TV):tfz τ n0 (.agg cs) = (fi (ej τ n0 2) cs).map .agg:=rfl
theorem zb5h (n0:Nat) (b:Bool):tfz τ n0 (.bool b) = some (TV.bool b):=rfl
theorem zbtm (n0:Nat) (b:Bool):ej τ n0 2 (.bool b) = some (TV.bool b):=rfl
theorem zaee (n0:Nat) (k:IntKind) (n:Int):tfz τ n0 (.int k n) = some (TV.int k n):=rfl
theorem zb5d (n0:Nat) (k:IntKind) (n:Int):ej τ n0 2 (.int k n) = some (TV.int k n):=rfl
theorem zad8 (n0:Nat) (s:ByteArray):tfz τ n0 (.str s) = some (TV.str s):=rfl
theorem zb5g (n0:Nat) (s:ByteArray):ej τ n0 2 (.str s) = some (TV.str s):=rfl
theorem zbc9 (n0:Nat) (l:List TV):tfz τ n0 (.sl l) = some (TV.sl l):=rfl
theorem zae1 (n0:Nat) (l:List TV):ej τ n0 2 (.sl l) = some (TV.sl l):=rfl
theorem zaed (n0:Nat) (k:Nat) (l:List TV):tfz τ n0 (.sla k l) = some (TV.sl l):=rfl
theorem zb5e (n0:Nat) (k:Nat) (l:List TV):ej τ n0 2 (.sla k l) = some (TV.sl l):=rfl
theorem zaeb (n0:Nat):tfz τ n0 .slz = some (.sl []):=rfl
theorem zb5f (n0:Nat):ej τ n0 2 .slz = some (.sl []):=rfl
theorem zaec (n0 id off n sz:Nat):tfz τ n0 (.slm id off n sz) = ej τ n0 2 (.slm id off n sz):=rfl
theorem zba8 (f:FuncId) (args:List Operand):tG Γ dr (.callW f args) m d K fr tk τ = d9 Γ false f (args.map fun a => (tO fr a).canT) d K fr tk τ:=rfl
def cvK (Γ:FuncId → Option TG) (dr:Bool) (v:TV) (args:List TV) (d:Option Nat) (K:ak) (fr:TF) (tk:TK) (τ:TH):Prop:=match v with | .func f a b => d9 Γ dr f (a ++ args ++ b) d K fr tk τ | _ => False
theorem zba7 (x:Operand) (args:List Operand):tG Γ dr (.callv x args) m d K fr tk τ = cvK Γ dr (tO fr x) (args.map fun a => (tO fr a).canT) d K fr tk τ:=by unfold cvK; rfl
theorem zb1q (x:Operand) (args:List Operand):tG Γ dr (.callvW x args) m d K fr tk τ = cvK Γ false (tO fr x) (args.map fun a => (tO fr a).canT) d K fr tk τ:=by unfold cvK; rfl
theorem za9t (f:FuncId) (p q args:List TV):cvK Γ dr (.func f p q) args d K fr tk τ = d9 Γ dr f (p ++ args ++ q) d K fr tk τ:=rfl
theorem za3w (v:TV):pK (some v) d K fr tk τ = K (dh fr d v) tk τ:=rfl
theorem zbei (c:Prop) [Decidable c] (v:TV):pK (if c then some v else none) d K fr tk τ = (c ∧ K (dh fr d v) tk τ):=by unfold pK; by_cases h:c <;> simp [h]
theorem zb3m (v:TV):opK (some (v,tk',τ')) d K fr = K (dh fr d v) tk' τ':=rfl
theorem zbpy (c:Prop) [Decidable c] (x:TV × TK × TH):opK (if c then some x else none) d K fr = (c ∧ opK (some x) d K fr):=by unfold opK; by_cases h:c <;> simp [h]
theorem zbla (x:Operand):tG Γ dr (.mov x) 0 d K fr tk τ = K (dh fr d (tO fr x)) tk τ:=rfl
theorem zbfl (x:Operand):tG Γ dr (.mov x) 3 d K fr tk τ = K (dh fr d (tO fr x).canT) tk τ:=rfl
def za8a (v:TV) (d:Option Nat) (K:ak) (fr:TF) (tk:TK) (τ:TH):Prop:=match v with | .slz => K (dh fr d (.sla tk.length [])) (tk ++ [some (0,0)]) τ | _ => False
theorem zbfm (x:Operand):tG Γ dr (.mov x) 1 d K fr tk τ = za8a (tO fr x) d K fr tk τ:=by unfold za8a; simp only [tG,tOp,if_true]; cases tO fr x <;> rfl
theorem zb29:za8a .slz d K fr tk τ = K (dh fr d (.sla tk.length [])) (tk ++ [some (0,0)]) τ:=rfl
def zbgw (c a b:TV):Option TV:=match c with | .bool t => some (bif t then a else b) | _ => none
theorem fe (o:Option TV):opK (o.map fun v => (v,tk,τ)) d K fr = pK o d K fr tk τ:=by cases o <;> rfl
theorem zbfk (c a b:Operand):tG Γ dr (.pick c a b) m d K fr tk τ = pK (zbgw (tO fr c) (tO fr a) (tO fr b)) d K fr tk τ:=(fe d K fr tk τ (tP (.pick c a b) fr τ)).trans (by unfold zbgw; rfl)
theorem za2l (t:Bool) (v w:TV):zbgw (.bool t) v w = some (bif t then v else w):=rfl
theorem zba4 (x:Operand):tG Γ dr (.load1 x) 0 d K fr tk τ = pK (ld1 τ (tO fr x)) d K fr tk τ:=(fe d K fr tk τ (tP (.load1 x) fr τ)).trans (by unfold ld1; rfl)
theorem za83 (id off:Nat):ld1 τ (.ptr id off) = zbbh τ id off:=rfl
theorem zb2r (cs:List TV) (off:Nat):ld1 τ (.rptr cs off) = cs[off]?:=rfl
theorem zba2 (n:Nat) (x:Operand):tG Γ dr (.loadN n x) m d K fr tk τ = pK (ldN n τ (tO fr x)) d K fr tk τ:=(fe d K fr tk τ (tP (.loadN n x) fr τ)).trans (by unfold ldN; rfl)
theorem za82 (n id off:Nat):ldN n τ (.ptr id off) = if n = 0 then none else (gq τ id off n).map .agg:=rfl
theorem zb2s (n:Nat) (cs:List TV) (off:Nat):ldN n τ (.rptr cs off) = if off + n ≤ cs.length then some (.agg ((cs.drop off).take n)) else none:=rfl
def zbkc:TV → Option TV | .ptr id off => some (.ptr id off) | .rptr cs off => some (.rptr cs off) | .func f a b => some (.func f a b) | _ => none
theorem zb1u (x:Operand):tG Γ dr (.nilchk x) m d K fr tk τ = pK (zbkc (tO fr x)) d K fr tk τ:=(fe d K fr tk τ (tP (.nilchk x) fr τ)).trans (by unfold zbkc; rfl)
theorem zb28 (id off:Nat):zbkc (.ptr id off) = some (.ptr id off):=rfl
theorem zbsg (cs:List TV) (off:Nat):zbkc (.rptr cs off) = some (.rptr cs off):=rfl
theorem zbsf (f:FuncId) (p q:List TV):zbkc (.func f p q) = some (.func f p q):=rfl
theorem zblg (op:BinOp) (x y:Operand):tG Γ dr (.bin op x y) m d K fr tk τ = pK (yd op (tO fr x) (tO fr y)) d K fr tk τ:=(fe d K fr tk τ (tP (.bin op x y) fr τ)).trans (by rfl)
def eqb (neg:Bool) (p q:TV):Option TV:=match p,q with | .bool p,.bool q => some (.bool (bif neg then p != q else p == q)) | _,_ => none
theorem zble (neg:Bool) (x y:Operand):tG Γ dr (.eqB neg x y) m d K fr tk τ = pK (eqb neg (tO fr x) (tO fr y)) d K fr tk τ:=(fe d K fr tk τ (tP (.eqB neg x y) fr τ)).trans (by unfold eqb; rfl)
theorem zbe7 (neg p q:Bool):eqb neg (.bool p) (.bool q) = some (.bool (bif neg then p != q else p == q)):=rfl
theorem zba5 (k:NK) (neg:Bool) (x:Operand):tG Γ dr (.isNil k neg x) m d K fr tk τ = pK ((g9 k (tO fr x)).map fun b => .bool (bif neg then !b else b)) d K fr tk τ:=(fe d K fr tk τ (tP (.isNil k neg x) fr τ)).trans (by rfl)
theorem zbxm :g9 .p (.nilP) = some true:=rfl
theorem zbvq (i o:Nat):g9 .p (.ptr i o) = some false:=rfl
theorem zbxn (c:List TV) (o:Nat):g9 .p (.rptr c o) = some false:=rfl
theorem zbvs :g9 .s (.slz) = some true:=rfl
theorem zbtn (v:TV) (l:List TV):g9 .s (.sl (v :: l)) = some false:=rfl
theorem zbvr (i o n s:Nat):g9 .s (.slm i o n s) = some false:=rfl
theorem zbxl :g9 .m (.nilM) = some true:=rfl
theorem zbxk :g9 .f (.nilF) = some true:=rfl
theorem zbxj (f:FuncId) (p q:List TV):g9 .f (.func f p q) = some false:=rfl
theorem zb68 (op:UnOp) (x:Operand):tG Γ dr (.un op x) m d K fr tk τ = pK (tun op (tO fr x)) d K fr tk τ:=(fe d K fr tk τ (tP (.un op x) fr τ)).trans (by rfl)
def cnv (k:IntKind):TV → Option TV | .int _ n => some (.int k (k.wrap n)) | _ => none
theorem zbfp (k:IntKind) (x:Operand):tG Γ dr (.conv k x) m d K fr tk τ = pK (cnv k (tO fr x)) d K fr tk τ:=(fe d K fr tk τ (tP (.conv k x) fr τ)).trans (by unfold cnv; rfl)
theorem za9w (k j:IntKind) (n:Int):cnv k (.int j n) = some (.int k (k.wrap n)):=rfl
def zbqp:TV → Option TV | .str s => some (.str s) | _ => none
theorem zba6 (x:Operand):tG Γ dr (.convS x) m d K fr tk τ = pK (zbqp (tO fr x)) d K fr tk τ:=(fe d K fr tk τ (tP (.convS x) fr τ)).trans (by unfold zbqp; rfl)
theorem zb19 (s:ByteArray):zbqp (.str s) = some (.str s):=rfl
def fad (off:Nat):TV → Option TV | .ptr id o => some (.ptr id (o + off)) | .rptr cs o => some (.rptr cs (o + off)) | _ => none
theorem zbwg (off:Nat) (x:Operand):tG Γ dr (.fieldAddr off x) 0 d K fr tk τ = pK (fad off (tO fr x)) d K fr tk τ:=(fe d K fr tk τ (tP (.fieldAddr off x) fr τ)).trans (by unfold fad; rfl)
def lfO (b:Option Ob) (id o off:Nat) (d:Option Nat) (K:ak) (fr:TF) (tk:TK) (τ:TH):Prop:=match b with
 | some b => (τ.lock ≤ id ∧ b.cs ≠ []) ∧ K (dh (zbbg id τ.next fr) d (.ptr τ.next (o + off))) tk ((τ.put id ⟨b.t,[]⟩).push b)
 | none => False
def lfK (off:Nat) (v:TV) (d:Option Nat) (K:ak) (fr:TF) (tk:TK) (τ:TH):Prop:=match v with | .ptr id o => lfO (τ.at id) id o off d K fr tk τ | _ => False
theorem za8x (off id o:Nat):lfK off (.ptr id o) d K fr tk τ = lfO (τ.at id) id o off d K fr tk τ:=rfl
theorem zb2w (id o off:Nat) (t:TypeId) (cs:List TV):lfO (some ⟨t,cs⟩) id o off d K fr tk τ = ((τ.lock ≤ id ∧ cs ≠ []) ∧ K (dh (zbbg id τ.next fr) d (.ptr τ.next (o + off))) tk ((τ.put id ⟨t,[]⟩).push ⟨t,cs⟩)):=rfl
theorem zb4h (i n:Nat):zbbg i n [] = []:=rfl
theorem zbs3 (i n k:Nat) (v:TV) (l:TF):zbbg i n ((k,v) :: l) = (k,ren i n v) :: zbbg i n l:=rfl
theorem zau2 (i n j o:Nat):ren i n (.ptr j o) = if j = i then .ptr n o else .ptr j o:=rfl
theorem zbs4 (i n:Nat) :ren i n (TV.undef ) = TV.undef :=rfl
theorem zb4i (i n:Nat) (b:Bool):ren i n (TV.bool b) = TV.bool b:=rfl
theorem zau3 (i n:Nat) (k:IntKind) (x:Int):ren i n (TV.int k x) = TV.int k x:=rfl
theorem zat2 (i n:Nat) (s:ByteArray):ren i n (TV.str s) = TV.str s:=rfl
theorem zb4n (i n:Nat) :ren i n (TV.nilP ) = TV.nilP :=rfl
theorem zb4o (i n:Nat) (c:List TV) (o:Nat):ren i n (TV.rptr c o) = TV.rptr c o:=rfl
theorem zauk (i n:Nat) :ren i n (TV.slz ) = TV.slz :=rfl
theorem zbd5 (i n:Nat) (l:List TV):ren i n (TV.sl l) = TV.sl l:=rfl
theorem zau1 (i n:Nat) (k:Nat) (l:List TV):ren i n (TV.sla k l) = TV.sla k l:=rfl
theorem zau0 (i n:Nat) (k:Nat) (t:TypeId):ren i n (TV.slb k t) = TV.slb k t:=rfl
theorem zauo (i n:Nat) (t:TypeId) (l:List TV):ren i n (TV.slo t l) = TV.slo t l:=rfl
theorem zaup (i n:Nat) (j o n0 s:Nat):ren i n (TV.slm j o n0 s) = TV.slm j o n0 s:=rfl
theorem zb4m (i n:Nat) :ren i n (TV.nilM ) = TV.nilM :=rfl
theorem zb4k (i n:Nat) :ren i n (TV.nilF ) = TV.nilF :=rfl
theorem zb4j (i n:Nat) (f:FuncId) (p q:List TV):ren i n (TV.func f p q) = TV.func f p q:=rfl
theorem zb4l (i n:Nat) :ren i n (TV.nilI ) = TV.nilI :=rfl
theorem zau4 (i n:Nat) (cs:List TV):ren i n (TV.agg cs) = TV.agg cs:=rfl
theorem zara (i n:Nat) (cs:List TV):ren i n (TV.tup cs) = TV.tup cs:=rfl
theorem za9q (off id o:Nat):fad off (.ptr id o) = some (.ptr id (o + off)):=rfl
theorem zb2f (off:Nat) (cs:List TV) (o:Nat):fad off (.rptr cs o) = some (.rptr cs (o + off)):=rfl
def fl1 (off:Nat):TV → Option TV | .agg cs => cs[off]? | _ => none
theorem zb1r (off:Nat) (x:Operand):tG Γ dr (.field1 off x) m d K fr tk τ = pK (fl1 off (tO fr x)) d K fr tk τ:=(fe d K fr tk τ (tP (.field1 off x) fr τ)).trans (by unfold fl1; rfl)
theorem za9p (off:Nat) (cs:List TV):fl1 off (.agg cs) = cs[off]?:=rfl
def flN (off n:Nat):TV → Option TV | .agg cs => if off + n ≤ cs.length then some (.agg ((cs.drop off).take n)) else none | _ => none
theorem zb1s (off n:Nat) (x:Operand):tG Γ dr (.fieldN off n x) m d K fr tk τ = pK (flN off n (tO fr x)) d K fr tk τ:=(fe d K fr tk τ (tP (.fieldN off n x) fr τ)).trans (by unfold flN; rfl)
theorem za9o (off n:Nat) (cs:List TV):flN off n (.agg cs) = if off + n ≤ cs.length then some (.agg ((cs.drop off).take n)) else none:=rfl
def ixP (len sz:Nat) (x i:TV):Option TV:=match x,i with
 | .ptr id o,.int _ n => if 0 ≤ n ∧ n < len then some (.ptr id (o + n.toNat * sz)) else none
 | .rptr cs o,.int _ n => if 0 ≤ n ∧ n < len then some (.rptr cs (o + n.toNat * sz)) else none
 | _,_ => none
theorem zbug (len sz:Nat) (x i:Operand):tG Γ dr (.indexPtr len sz x i) m d K fr tk τ = pK (ixP len sz (tO fr x) (tO fr i)) d K fr tk τ:=(fe d K fr tk τ (tP (.indexPtr len sz x i) fr τ)).trans (by unfold ixP; rfl)
theorem za89 (len sz id o:Nat) (k:IntKind) (n:Int):ixP len sz (.ptr id o) (.int k n) = if 0 ≤ n ∧ n < len then some (.ptr id (o + n.toNat * sz)) else none:=rfl
theorem zb3j (len sz:Nat) (cs:List TV) (o:Nat) (k:IntKind) (n:Int):ixP len sz (.rptr cs o) (.int k n) = if 0 ≤ n ∧ n < len then some (.rptr cs (o + n.toNat * sz)) else none:=rfl
def ixS (sz:Nat) (x i:TV):Option TV:=match i with
 | .int _ n => (match x with
  | .slm id o len s => if 0 ≤ n ∧ n < len ∧ s = sz then some (.ptr id (o + n.toNat * sz)) else none
  | v => v.list.bind fun l => if 0 ≤ n ∧ n < l.length ∧ (l.getD n.toNat .undef).cells.length = sz then some (.rptr (l.getD n.toNat .undef).cells 0) else none)
 | _ => none
theorem zb52 (sz:Nat) (x i:Operand):tG Γ dr (.indexSl sz x i) m d K fr tk τ = pK (ixS sz (tO fr x) (tO fr i)) d K fr tk τ:=(fe d K fr tk τ (tP (.indexSl sz x i) fr τ)).trans (by unfold ixS; rfl)
theorem zbe1 (sz:Nat) (l:List TV) (j:IntKind) (n:Int):ixS sz (.sl l) (.int j n) = if 0 ≤ n ∧ n < l.length ∧ (l.getD n.toNat .undef).cells.length = sz then some (.rptr (l.getD n.toNat .undef).cells 0) else none:=rfl
theorem za88 (sz:Nat) (k:Nat) (l:List TV) (j:IntKind) (n:Int):ixS sz (.sla k l) (.int j n) = if 0 ≤ n ∧ n < l.length ∧ (l.getD n.toNat .undef).cells.length = sz then some (.rptr (l.getD n.toNat .undef).cells 0) else none:=rfl
theorem za87 (sz id o len s:Nat) (j:IntKind) (n:Int):ixS sz (.slm id o len s) (.int j n) = if 0 ≤ n ∧ n < len ∧ s = sz then some (.ptr id (o + n.toNat * sz)) else none:=rfl
def ixT (x i:TV):Option TV:=match x,i with | .str s,.int _ n => if 0 ≤ n ∧ n < s.size then some (.int .u8 (s.data.getD n.toNat 0).toNat) else none | _,_ => none
theorem zbuh (x i:Operand):tG Γ dr (.indexStr x i) m d K fr tk τ = pK (ixT (tO fr x) (tO fr i)) d K fr tk τ:=(fe d K fr tk τ (tP (.indexStr x i) fr τ)).trans (by unfold ixT; rfl)
theorem zbkl (s:ByteArray) (k:IntKind) (n:Int):ixT (.str s) (.int k n) = if 0 ≤ n ∧ n < s.size then some (.int .u8 (s.data.getD n.toNat 0).toNat) else none:=rfl
def slT (x:TV) (lo hi:Option TV):Option TV:=match x with | .str s => (gv s.size lo hi).map fun lh => .str (s.extract lh.1 lh.2) | _ => none
theorem zbui (x:Operand) (lo hi:Option Operand):tG Γ dr (.sliceStr x lo hi) m d K fr tk τ = pK (slT (tO fr x) (lo.map (tO fr)) (hi.map (tO fr))) d K fr tk τ:=(fe d K fr tk τ (tP (.sliceStr x lo hi) fr τ)).trans (by unfold slT; rfl)
theorem zbj3 (s:ByteArray) (lo hi:Option TV):slT (.str s) lo hi = (gv s.size lo hi).map fun lh => .str (s.extract lh.1 lh.2):=rfl
def slS (sz:Nat) (x:TV) (lo hi:Option TV):Option TV:=match x with
 | .slm id o len s => if s = sz then (gv len lo hi).map fun lh => .slm id (o + lh.1 * sz) (lh.2 - lh.1) sz else none
 | .sl l => if l.all (fun e => e.cells.length == sz) && !l.isEmpty then (gv l.length lo hi).map fun lh => .sl ((l.take lh.2).drop lh.1) else none
 | .sla _ l => if l.all (fun e => e.cells.length == sz) && !l.isEmpty then (gv l.length lo hi).map fun lh => .sl ((l.take lh.2).drop lh.1) else none
 | _ => none
theorem zbrf (sz:Nat) (x:Operand) (lo hi:Option Operand):tG Γ dr (.sliceSl sz x lo hi) m d K fr tk τ = pK (slS sz (tO fr x) (lo.map (tO fr)) (hi.map (tO fr))) d K fr tk τ:=(fe d K fr tk τ (tP (.sliceSl sz x lo hi) fr τ)).trans (by unfold slS; rfl)
theorem zbdz (sz:Nat) (l:List TV) (lo hi:Option TV):slS sz (.sl l) lo hi = if l.all (fun e => e.cells.length == sz) && !l.isEmpty then (gv l.length lo hi).map fun lh => .sl ((l.take lh.2).drop lh.1) else none:=rfl
theorem zaqd (sz k:Nat) (l:List TV) (lo hi:Option TV):slS sz (.sla k l) lo hi = if l.all (fun e => e.cells.length == sz) && !l.isEmpty then (gv l.length lo hi).map fun lh => .sl ((l.take lh.2).drop lh.1) else none:=rfl
theorem zaqc (sz id o len s:Nat) (lo hi:Option TV):slS sz (.slm id o len s) lo hi = if s = sz then (gv len lo hi).map fun lh => .slm id (o + lh.1 * sz) (lh.2 - lh.1) sz else none:=rfl
theorem zbjt (n:Nat):gv n none none = some (0,n):=rfl
theorem zbjv (n:Nat) (k:IntKind) (l:Int):gv n (some (.int k l)) none = if 0 ≤ l ∧ l ≤ n then some (l.toNat,n) else none:=rfl
theorem zbju (n:Nat) (k:IntKind) (h:Int):gv n none (some (.int k h)) = if 0 ≤ h ∧ h ≤ n then some (0,h.toNat) else none:=by unfold gv tHi; by_cases c:0 ≤ h ∧ h ≤ n <;> simp [c,tLo]
theorem zbjw (n:Nat) (k j:IntKind) (l h:Int):gv n (some (.int k l)) (some (.int j h)) = if (0 ≤ h ∧ h ≤ n) ∧ 0 ≤ l ∧ l ≤ h then some (l.toNat,h.toNat) else none:=by
 unfold gv tHi
 by_cases c:0 ≤ h ∧ h ≤ n
 · have e:((h.toNat:Nat):Int) = h:=by omega
   simp only [c,and_self,if_true,Option.bind_some,tLo,e,true_and]
 · have c':¬ ((0 ≤ h ∧ h ≤ n) ∧ 0 ≤ l ∧ l ≤ h):=fun q => c q.1
   rw [if_neg c']
   simp [c]
theorem za8c {α β:Type} (c:Prop) [Decidable c] (x:α) (f:α → β):(if c then some x else none:Option α).map f = if c then some (f x) else none:=by by_cases h:c <;> simp [h]
def zbqk:TV → Option TV | .str s => some (.int .i64 s.size) | _ => none
theorem zbfn (x:Operand):tG Γ dr (.lenS x) m d K fr tk τ = pK (zbqk (tO fr x)) d K fr tk τ:=(fe d K fr tk τ (tP (.lenS x) fr τ)).trans (by unfold zbqk; rfl)
theorem zbe0 (s:ByteArray):zbqk (.str s) = some (.int .i64 s.size):=rfl
def zbic:TV → Option TV | .slm _ _ n _ => some (.int .i64 n) | v => v.list.map fun l => .int .i64 l.length
theorem zbfo (x:Operand):tG Γ dr (.lenL x) m d K fr tk τ = pK (zbic (tO fr x)) d K fr tk τ:=(fe d K fr tk τ (tP (.lenL x) fr τ)).trans (by unfold zbic; rfl)
theorem zb2u (id o n s:Nat):zbic (.slm id o n s) = some (.int .i64 n):=rfl
theorem za8y (l:List TV):zbic (.sl l) = some (.int .i64 l.length):=rfl
theorem zb2t (k:Nat) (l:List TV):zbic (.sla k l) = some (.int .i64 l.length):=rfl
theorem zb2v:zbic .slz = some (.int .i64 0):=rfl
def zbqi (x y:TV):Option TV:=match x,y with | .int k a,.int _ b => some (.int k (if b < a then b else a)) | _,_ => none
theorem zblb (x y:Operand):tG Γ dr (.min x y) m d K fr tk τ = pK (zbqi (tO fr x) (tO fr y)) d K fr tk τ:=(fe d K fr tk τ (tP (.min x y) fr τ)).trans (by unfold zbqi; rfl)
theorem zben (k j:IntKind) (a b:Int):zbqi (.int k a) (.int j b) = some (.int k (if b < a then b else a)):=rfl
def zbqj (x y:TV):Option TV:=match x,y with | .int k a,.int _ b => some (.int k (if a < b then b else a)) | _,_ => none
theorem zblc (x y:Operand):tG Γ dr (.max x y) m d K fr tk τ = pK (zbqj (tO fr x) (tO fr y)) d K fr tk τ:=(fe d K fr tk τ (tP (.max x y) fr τ)).trans (by unfold zbqj; rfl)
theorem zbeo (k j:IntKind) (a b:Int):zbqj (.int k a) (.int j b) = some (.int k (if a < b then b else a)):=rfl
theorem zb1t (f:FuncId) (first captured:List Operand):tG Γ dr (.mkFunc (.func f) first captured) m d K fr tk τ = K (dh fr d (.func f (first.map fun x => (tO fr x).canS) (captured.map fun x => (tO fr x).canS))) tk τ:=rfl
def exT (i:Nat):TV → Option TV | .tup cs => cs[i]? | _ => none
theorem zb51 (x:Operand) (i:Nat):tG Γ dr (.extract x i) m d K fr tk τ = pK (exT i (tO fr x)) d K fr tk τ:=(fe d K fr tk τ (tP (.extract x i) fr τ)).trans (by unfold exT; rfl)
theorem zbku (i:Nat) (cs:List TV):exT i (.tup cs) = cs[i]?:=rfl
theorem zbba (zero:List Value) (parts:List (Nat × Nat × Operand)):tG Γ dr (.build zero parts) m d K fr tk τ = pK ((zbcw (zero.map ofS) (parts.map fun p => (p.1,p.2.1,tO fr p.2.2))).map .agg) d K fr tk τ:=(fe d K fr tk τ (tP (.build zero parts) fr τ)).trans (by rfl)
theorem zbtk (cs:List TV):zbcw cs [] = some cs:=rfl
theorem zbvp (cs:List TV) (off size:Nat) (v:TV) (r:List (Nat × Nat × TV)):zbcw cs ((off,size,v) :: r) = if v.known = true ∧ v.cells.length = size ∧ off + size ≤ cs.length then zbcw (de cs off (v.cells.map TV.part)) r else none:=rfl
theorem zbue (cs:List TV) (off:Nat):de cs off [] = cs:=rfl
theorem zbxr (cs:List TV) (off:Nat) (v:TV) (r:List TV):de cs off (v :: r) = de (cs.set off v) (off + 1) r:=rfl
def zbh9 (τ:TH):TV → Option TV | .slm id off n s => (if s = 1 then ((gq τ id off n).bind mo).map fun bs => .str ⟨bs.toArray⟩ else none) | v => (v.list.bind mo).map fun bs => .str ⟨bs.toArray⟩
theorem zba0 (x:Operand):tG Γ dr (.toStr x) m d K fr tk τ = pK (zbh9 τ (tO fr x)) d K fr tk τ:=(fe d K fr tk τ (tP (.toStr x) fr τ)).trans (by unfold zbh9; rfl)
theorem zb5u (l:List TV):zbh9 τ (.sl l) = (mo l).map fun bs => .str ⟨bs.toArray⟩:=rfl
theorem zbud (k:Nat) (l:List TV):zbh9 τ (.sla k l) = (mo l).map fun bs => .str ⟨bs.toArray⟩:=rfl
theorem zb4w:zbh9 τ .slz = some (.str ⟨#[]⟩):=rfl
theorem zb4v (id off n s:Nat):zbh9 τ (.slm id off n s) = if s = 1 then ((gq τ id off n).bind mo).map fun bs => .str ⟨bs.toArray⟩ else none:=rfl
def ixA (len:Nat) (x i:TV):Option TV:=match x,i with | .agg cs,.int _ n => if 0 ≤ n ∧ n < len ∧ len ≤ cs.length then cs[n.toNat]? else none | _,_ => none
theorem zbuf (len:Nat) (x i:Operand):tG Γ dr (.indexAgg len x i) m d K fr tk τ = pK (ixA len (tO fr x) (tO fr i)) d K fr tk τ:=(fe d K fr tk τ (tP (.indexAgg len x i) fr τ)).trans (by unfold ixA; rfl)
theorem zbkm (len:Nat) (cs:List TV) (k:IntKind) (n:Int):ixA len (.agg cs) (.int k n) = if 0 ≤ n ∧ n < len ∧ len ≤ cs.length then cs[n.toNat]? else none:=rfl
def zbql (len sz:Nat) (x i:TV):Option TV:=match x,i with | .agg cs,.int _ n => if 0 ≤ n ∧ n < len ∧ len * sz ≤ cs.length then some (.agg ((cs.drop (n.toNat * sz)).take sz)) else none | _,_ => none
theorem zbwh (len sz:Nat) (x i:Operand):tG Γ dr (.indexAggN len sz x i) m d K fr tk τ = pK (zbql len sz (tO fr x) (tO fr i)) d K fr tk τ:=(fe d K fr tk τ (tP (.indexAggN len sz x i) fr τ)).trans (by unfold zbql; rfl)
theorem zbe2 (len sz:Nat) (cs:List TV) (k:IntKind) (n:Int):zbql len sz (.agg cs) (.int k n) = if 0 ≤ n ∧ n < len ∧ len * sz ≤ cs.length then some (.agg ((cs.drop (n.toNat * sz)).take sz)) else none:=rfl
def eqA (neg:Bool) (ks:List FK) (x y:TV):Option TV:=match x,y with | .agg p,.agg q => (zbh7 ks p q).map fun b => .bool (bif neg then !b else b) | _,_ => none
theorem zbld (neg:Bool) (ks:List FK) (x y:Operand):tG Γ dr (.eqF neg ks x y) m d K fr tk τ = pK (eqA neg ks (tO fr x) (tO fr y)) d K fr tk τ:=(fe d K fr tk τ (tP (.eqF neg ks x y) fr τ)).trans (by unfold eqA; rfl)
theorem zbkv (neg:Bool) (ks:List FK) (p q:List TV):eqA neg ks (.agg p) (.agg q) = (zbh7 ks p q).map fun b => .bool (bif neg then !b else b):=rfl
theorem zblf (t n:Nat) (x:Operand):tG Γ dr (.box t n x) m d K fr tk τ = (((tO fr x).cells.all TV.one = true ∧ eo τ.next ((tO fr x).cells.map TV.put) = true) ∧ K (dh fr d (.ptr τ.next 0)) tk (τ.push ⟨t,(tO fr x).cells.map TV.put⟩)):=zbpy d K fr _ _
def stK (n:Nat) (a x:TV) (d:Option Nat) (K:ak) (fr:TF) (tk:TK) (τ:TH):Prop:=match a with
 | .ptr id off => x.cells.length = n ∧ (match zbhx τ id off (x.cells.map TV.put) with | some τ' => K (dh fr d (.tup [])) tk τ' | none => False)
 | _ => False
theorem zba1 (n:Nat) (y x:Operand):tG Γ dr (.store n y x) 0 d K fr tk τ = stK n (tO fr y) (tO fr x) d K fr tk τ:=by
 have e0:ky (.store n y x) 0 fr τ = (fr,τ):=rfl
 simp only [tG,e0,tOp,stK]
 cases tO fr y with
 | ptr id off =>
  by_cases h:(tO fr x).cells.length = n
  · simp only [h,if_true,true_and,show (0:Nat) = 2 ↔ False from by decide,if_false]
    cases zbhx τ id off ((tO fr x).cells.map TV.put) <;> rfl
  · simp [h,opK]
 | _ => rfl
def stB (o:Option Ob) (id off:Nat) (vs:List TV) (d:Option Nat) (K:ak) (fr:TF) (tk:TK) (τ:TH):Prop:=match o with
 | some b => (τ.lock ≤ id ∧ vs ≠ [] ∧ off + vs.length ≤ b.cs.length ∧ (vs.all TV.one = true) ∧ eo (id + 1) vs = true) ∧ K (dh fr d (.tup [])) tk (τ.put id ⟨b.t,de b.cs off vs⟩)
 | none => False
theorem zapx (n id off:Nat) (x:TV):stK n (.ptr id off) x d K fr tk τ = (x.cells.length = n ∧ stB (τ.at id) id off (x.cells.map TV.put) d K fr tk τ):=by
 simp only [stK,stB,zbhx]
 cases τ.at id with
 | none => rfl
 | some b =>
  simp only [Option.bind_some]
  split
  · rename_i τ' h
    split at h
    · rename_i hc; injection h with h; subst h; simp only [hc,ne_eq,not_false_eq_true,and_self,true_and]
    · cases h
  · rename_i h
    split at h
    · cases h
    · rename_i hc; simp only [hc,false_and]
theorem zb4u (t:TypeId) (cs:List TV) (id off:Nat) (vs:List TV):stB (some ⟨t,cs⟩) id off vs d K fr tk τ = ((τ.lock ≤ id ∧ vs ≠ [] ∧ off + vs.length ≤ cs.length ∧ (vs.all TV.one = true) ∧ eo (id + 1) vs = true) ∧ K (dh fr d (.tup [])) tk (τ.put id ⟨t,de cs off vs⟩)):=rfl
def tkB (o:Option Ob) (id off:Nat) (d:Option Nat) (K:ak) (fr:TF) (tk:TK) (τ:TH):Prop:=match o with
 | some b => (match b.cs[off]? with | some (.slo t l) => τ.lock ≤ id ∧ K (dh fr d (.sla tk.length l)) (tk ++ [some (l.length,t)]) (τ.put id ⟨b.t,b.cs.set off (.sl l)⟩) | some .slz => τ.lock ≤ id ∧ K (dh fr d (.sla tk.length [])) (tk ++ [some (0,0)]) (τ.put id ⟨b.t,b.cs.set off (.sl [])⟩) | _ => False)
 | none => False
def tkK (x:TV) (d:Option Nat) (K:ak) (fr:TF) (tk:TK) (τ:TH):Prop:=match x with | .ptr id off => tkB (τ.at id) id off d K fr tk τ | _ => False
def tkC (t:TypeId) (cs:List TV) (id off:Nat) (v:Option TV) (d:Option Nat) (K:ak) (fr:TF) (tk:TK) (τ:TH):Prop:=match v with | some (.slo u l) => τ.lock ≤ id ∧ K (dh fr d (.sla tk.length l)) (tk ++ [some (l.length,u)]) (τ.put id ⟨t,cs.set off (.sl l)⟩) | some .slz => τ.lock ≤ id ∧ K (dh fr d (.sla tk.length [])) (tk ++ [some (0,0)]) (τ.put id ⟨t,cs.set off (.sl [])⟩) | _ => False
theorem zba3 (x:Operand):tG Γ dr (.load1 x) 2 d K fr tk τ = tkK (tO fr x) d K fr tk τ:=by
 simp only [tG,tOp,tkK,if_true]
 cases tO fr x with
 | ptr id off =>
  simp only [tkB]
  cases τ.at id with
  | none => rfl
  | some b =>
   simp only [Option.bind_some]
   cases hq:b.cs[off]? with
   | none => rfl
   | some v =>
    cases v with
    | slo t l => by_cases h:τ.lock ≤ id <;> simp [h,opK]
    | slz => by_cases h:τ.lock ≤ id <;> simp [h,opK]
    | _ => rfl
 | _ => rfl
theorem zaa1 (id off:Nat):tkK (.ptr id off) d K fr tk τ = tkB (τ.at id) id off d K fr tk τ:=rfl
theorem zb5i (t:TypeId) (cs:List TV) (id off:Nat):tkB (some ⟨t,cs⟩) id off d K fr tk τ = tkC t cs id off cs[off]? d K fr tk τ:=rfl
theorem zb5w (t:TypeId) (cs:List TV) (id off:Nat):tkC t cs id off (some .slz) d K fr tk τ = (τ.lock ≤ id ∧ K (dh fr d (.sla tk.length [])) (tk ++ [some (0,0)]) (τ.put id ⟨t,cs.set off (.sl [])⟩)):=rfl
theorem zb5v (t u:TypeId) (cs l:List TV) (id off:Nat):tkC t cs id off (some (.slo u l)) d K fr tk τ = (τ.lock ≤ id ∧ K (dh fr d (.sla tk.length l)) (tk ++ [some (l.length,u)]) (τ.put id ⟨t,cs.set off (.sl l)⟩)):=rfl
def s2K (n:Nat) (a x:TV) (d:Option Nat) (K:ak) (fr:TF) (tk:TK) (τ:TH):Prop:=match a,x with
 | .ptr id off,.sla tok l => (match tk[tok]? with
  | some (some (k,t)) => (k = l.length ∧ n = 1) ∧ stB (τ.at id) id off [.slo t l] d K fr (tk.set tok none) τ
  | _ => False)
 | _,_ => False
def s2T (o:Option (Option (Nat × TypeId))) (n id off tok:Nat) (l:List TV) (d:Option Nat) (K:ak) (fr:TF) (tk:TK) (τ:TH):Prop:=match o with
 | some (some (k,t)) => (k = l.length ∧ n = 1) ∧ stB (τ.at id) id off [.slo t l] d K fr (tk.set tok none) τ
 | _ => False
theorem zb04 (n:Nat) (y x:Operand):tG Γ dr (.store n y x) 2 d K fr tk τ = s2K n (tO fr y) (tO fr x) d K fr tk τ:=by
 have e0:ky (.store n y x) 2 fr τ = (fr,τ):=rfl
 simp only [tG,e0,tOp,s2K,if_true]
 cases tO fr y with
 | ptr id off =>
  cases tO fr x with
  | sla tok l =>
   simp only
   cases tk[tok]? with
   | none => rfl
   | some o =>
    cases o with
    | none => rfl
    | some p =>
     obtain ⟨k,t⟩:=p
     by_cases h:k = l.length ∧ n = 1
     · simp only [h,and_self,if_true,true_and,zbhx,stB]
       cases τ.at id with
       | none => rfl
       | some b =>
        simp only [Option.bind_some]
        by_cases hc:τ.lock ≤ id ∧ [TV.slo t l] ≠ [] ∧ off + [TV.slo t l].length ≤ b.cs.length ∧ ([TV.slo t l].all TV.one = true) ∧ eo (id + 1) [TV.slo t l] = true
        · rw [if_pos hc]; simp only [hc,ne_eq,not_false_eq_true,and_self,true_and]; rfl
        · rw [if_neg hc]; simp only [hc,false_and]; rfl
     · simp only [h,if_false,false_and]; rfl
  | _ => rfl
 | _ => rfl
theorem zaq0 (n id off tok:Nat) (l:List TV):s2K n (.ptr id off) (.sla tok l) d K fr tk τ = s2T (tk[tok]?) n id off tok l d K fr tk τ:=rfl
theorem zb4q (n id off tok k t:Nat) (l:List TV):s2T (some (some (k,t))) n id off tok l d K fr tk τ = ((k = l.length ∧ n = 1) ∧ stB (τ.at id) id off [.slo t l] d K fr (tk.set tok none) τ):=rfl
def bsO (m:Nat) (t sz:Nat) (o:Option (List TV)) (d:Option Nat) (K:ak) (fr:TF) (tk:TK) (τ:TH):Prop:=match o with | some l => (if m = 1 then K (dh fr d (.slm τ.next 0 l.length sz)) tk (τ.push ⟨t,l.flatMap TV.cells⟩) else if m = 2 then (l ≠ [] ∧ l.length ≤ maxLen) ∧ K (dh fr d (.sla tk.length l)) (tk ++ [some (l.length,t)]) τ else K (dh fr d (.sl l)) tk τ) | none => False
theorem zb50 (t sz len:Nat) (zeros:List Value) (parts:List (Nat × Nat × Operand)):tG Γ dr (.buildSl t sz len zeros parts) m d K fr tk τ = ((parts.length = len ∧ sz ≠ 0 ∧ zeros.length = len * sz) ∧ bsO m t sz (uh sz 0 (parts.map fun p => (p.1,p.2.1,tO fr p.2.2))) d K fr tk τ):=by
 simp only [tG,tOp,bsO]
 by_cases h:parts.length = len ∧ sz ≠ 0 ∧ zeros.length = len * sz
 · rw [if_pos h]
   cases uh sz 0 (parts.map fun p => (p.1,p.2.1,tO fr p.2.2)) with
   | none => exact propext ⟨False.elim,fun q => q.2⟩
   | some l =>
    simp only [Option.bind_some,and_iff_right h]
    by_cases h1:m = 1
    · rw [if_pos h1,if_pos h1]; rfl
    · rw [if_neg h1,if_neg h1]
      by_cases h2:m = 2
      · rw [if_pos h2,if_pos h2]
        by_cases h3:l ≠ [] ∧ l.length ≤ maxLen
        · rw [if_pos h3]; exact propext ⟨fun q => ⟨h3,q⟩,fun q => q.2⟩
        · rw [if_neg h3]; exact propext ⟨False.elim,fun q => h3 q.1⟩
      · rw [if_neg h2,if_neg h2]; rfl
 · rw [if_neg h]; simp only [h,false_and]; rfl
theorem zbk2 (t sz:Nat) (l:List TV):bsO 0 t sz (some l) d K fr tk τ = K (dh fr d (.sl l)) tk τ:=rfl
theorem zbk1 (t sz:Nat) (l:List TV):bsO 1 t sz (some l) d K fr tk τ = K (dh fr d (.slm τ.next 0 l.length sz)) tk (τ.push ⟨t,l.flatMap TV.cells⟩):=rfl
theorem zbk0 (t sz:Nat) (l:List TV):bsO 2 t sz (some l) d K fr tk τ = ((l ≠ [] ∧ l.length ≤ maxLen) ∧ K (dh fr d (.sla tk.length l)) (tk ++ [some (l.length,t)]) τ):=rfl
theorem zbvo (sz i:Nat):uh sz i [] = some []:=rfl
theorem zbxh (sz i off n:Nat) (v:TV) (r:List (Nat × Nat × TV)):uh sz i ((off,n,v) :: r) = if off = i * sz ∧ n = sz ∧ v.canA.cells.length = sz ∧ v.canA.pure = true then (uh sz (i + 1) r).map (v.canA :: ·) else none:=rfl
def msK (mu:Bool) (t bytes:Nat) (zero:List Value) (l c:TV) (d:Option Nat) (K:ak) (fr:TF) (tk:TK) (τ:TH):Prop:=match l,c with
 | .int _ n,.int _ k => (0 ≤ n ∧ n ≤ k ∧ k * bytes ≤ 140737488355328 ∧ k ≤ 9223372036854775807 ∧ zero.length ≠ 0 ∧ (zero.all fun z => (ofS z).canS.pureS) = true) ∧
  (bif mu then K (dh fr d (.slm τ.next 0 n.toNat zero.length)) tk (τ.push ⟨t,((List.replicate n.toNat (zero.map fun z => (ofS z).put)).flatten)⟩) else K (dh fr d (.sl (List.replicate n.toNat (za9s (zero.map fun z => (ofS z).canS))))) tk τ)
 | _,_ => False
theorem zb53 (t bytes:Nat) (zero:List Value) (l c:Operand):tG Γ dr (.makeSl t bytes zero l c) 0 d K fr tk τ = msK false t bytes zero (tO fr l) (tO fr c) d K fr tk τ:=by
 simp only [tG,tOp,msK]
 cases tO fr l with
 | int k1 n =>
  cases tO fr c with
  | int k2 k =>
   simp only
   by_cases h:0 ≤ n ∧ n ≤ k ∧ k * bytes ≤ 140737488355328 ∧ k ≤ 9223372036854775807 ∧ zero.length ≠ 0 ∧ (zero.all fun z => (ofS z).canS.pureS) = true
   · rw [if_pos h]; simp only [h,ne_eq,not_false_eq_true,and_self,true_and]; rfl
   · rw [if_neg h]; simp only [h,false_and]; rfl
  | _ => rfl
 | _ => rfl
theorem zb54 (t bytes:Nat) (zero:List Value) (l c:Operand):tG Γ dr (.makeSl t bytes zero l c) 1 d K fr tk τ = msK true t bytes zero (tO fr l) (tO fr c) d K fr tk τ:=by
 simp only [tG,tOp,msK]
 cases tO fr l with
 | int k1 n =>
  cases tO fr c with
  | int k2 k =>
   simp only
   by_cases h:0 ≤ n ∧ n ≤ k ∧ k * bytes ≤ 140737488355328 ∧ k ≤ 9223372036854775807 ∧ zero.length ≠ 0 ∧ (zero.all fun z => (ofS z).canS.pureS) = true
   · rw [if_pos h]; simp only [h,ne_eq,not_false_eq_true,and_self,true_and]; rfl
   · rw [if_neg h]; simp only [h,false_and]; rfl
  | _ => rfl
 | _ => rfl
def msA (t bytes:Nat) (zero:List Value) (l c:TV) (d:Option Nat) (K:ak) (fr:TF) (tk:TK) (τ:TH):Prop:=match l,c with
 | .int _ n,.int _ k => (0 ≤ n ∧ n ≤ k ∧ k * bytes ≤ 140737488355328 ∧ k ≤ 9223372036854775807 ∧ zero.length ≠ 0 ∧ (zero.all fun z => (ofS z).canS.pureS) = true) ∧ (n = 0 ∧ zero.length = 1) ∧ K (dh fr d (.slb tk.length t)) (tk ++ [some (0,t)]) τ
 | _,_ => False
theorem zb55 (t bytes:Nat) (zero:List Value) (l c:Operand):tG Γ dr (.makeSl t bytes zero l c) 2 d K fr tk τ = msA t bytes zero (tO fr l) (tO fr c) d K fr tk τ:=by
 simp only [tG,tOp,msA]
 cases tO fr l with
 | int k1 n =>
  cases tO fr c with
  | int k2 k =>
   simp only
   by_cases h:0 ≤ n ∧ n ≤ k ∧ k * bytes ≤ 140737488355328 ∧ k ≤ 9223372036854775807 ∧ zero.length ≠ 0 ∧ (zero.all fun z => (ofS z).canS.pureS) = true
   · rw [if_pos h,if_neg (by decide),if_pos trivial]
     by_cases h2:n = 0 ∧ zero.length = 1
     · rw [if_pos h2]; exact propext ⟨fun q => ⟨h,h2,q⟩,fun q => q.2.2⟩
     · rw [if_neg h2]; exact propext ⟨False.elim,fun q => h2 q.2.1⟩
   · rw [if_neg h]; simp only [h,false_and]; rfl
  | _ => rfl
 | _ => rfl
theorem zbke (t bytes:Nat) (zero:List Value) (j1 j2:IntKind) (n k:Int):msA t bytes zero (.int j1 n) (.int j2 k) d K fr tk τ = ((0 ≤ n ∧ n ≤ k ∧ k * bytes ≤ 140737488355328 ∧ k ≤ 9223372036854775807 ∧ zero.length ≠ 0 ∧ (zero.all fun z => (ofS z).canS.pureS) = true) ∧ (n = 0 ∧ zero.length = 1) ∧ K (dh fr d (.slb tk.length t)) (tk ++ [some (0,t)]) τ):=rfl
theorem zbkd (mu:Bool) (t bytes:Nat) (zero:List Value) (j1 j2:IntKind) (n k:Int):msK mu t bytes zero (.int j1 n) (.int j2 k) d K fr tk τ = ((0 ≤ n ∧ n ≤ k ∧ k * bytes ≤ 140737488355328 ∧ k ≤ 9223372036854775807 ∧ zero.length ≠ 0 ∧ (zero.all fun z => (ofS z).canS.pureS) = true) ∧ (bif mu then K (dh fr d (.slm τ.next 0 n.toNat zero.length)) tk (τ.push ⟨t,((List.replicate n.toNat (zero.map fun z => (ofS z).put)).flatten)⟩) else K (dh fr d (.sl (List.replicate n.toNat (za9s (zero.map fun z => (ofS z).canS))))) tk τ)):=rfl
def apK (t sz bytes:Nat) (s:TV) (o:Option (List TV)) (d:Option Nat) (K:ak) (fr:TF) (tk:TK) (τ:TH):Prop:=match o with
 | some xs => (match i8 t sz bytes s xs tk with | some (v,tk') => K (dh fr d v) tk' τ | none => False)
 | none => False
def apT (o:Option (Option (Nat × TypeId))) (t sz bytes tok:Nat) (l xs:List TV) (d:Option Nat) (K:ak) (fr:TF) (tk:TK) (τ:TH):Prop:=match o with
 | some (some (n,t')) => ((xs.all (fun e => e.cells.length == sz && e.pure) = true ∧ xs.length * bytes ≤ 140737488355328 ∧ xs.length ≤ maxLen) ∧ n = l.length ∧ (n = 0 ∨ t' = t) ∧ (l.all (fun e => e.cells.length == sz) = true) ∧ (l.length + xs.length) * bytes ≤ 140737488355328 ∧ l.length + xs.length ≤ maxLen) ∧
  K (dh fr d (.sla tok (l ++ xs))) (tk.set tok (some (l.length + xs.length,t))) τ
 | _ => False
theorem zb1p (t sz bytes:Nat) (s x:Operand):tG Γ dr (.append t sz bytes s x) 0 d K fr tk τ = (sz ≠ 0 ∧ apK t sz bytes (tO fr s) (tO fr x).list d K fr tk τ):=by
 simp only [tG,tOp,apK]
 by_cases h:sz = 0
 · simp [h,opK]
 · simp only [h,if_false,ne_eq,not_false_eq_true,true_and]
   cases (tO fr x).list with
   | none => rfl
   | some xs =>
    simp only [Option.bind_some,show (0:Nat) = 1 ↔ False from by decide,if_false]
    cases i8 t sz bytes (tO fr s) xs tk <;> rfl
def amK (t sz bytes:Nat) (s:TV) (o:Option (List TV)) (d:Option Nat) (K:ak) (fr:TF) (tk:TK) (τ:TH):Prop:=match o with
 | some xs => (match ir t sz bytes s xs τ with | some (v,τ') => K (dh fr d v) tk τ' | none => False)
 | none => False
def amO (b:Option Ob) (t sz bytes id n:Nat) (xs:List TV) (d:Option Nat) (K:ak) (fr:TF) (tk:TK) (τ:TH):Prop:=match b with
 | some b => (b.t = t ∧ b.cs.length = n * sz ∧ n ≠ 0 ∧ τ.lock ≤ id ∧ (n + xs.length) * bytes ≤ 140737488355328 ∧ n + xs.length ≤ maxLen) ∧ K (dh fr d (.slm τ.next 0 (n + xs.length) sz)) tk ((τ.put id ⟨t,[]⟩).push ⟨t,b.cs ++ xs.flatMap TV.cells⟩)
 | none => False
theorem zb5x (t sz bytes:Nat) (s x:Operand):tG Γ dr (.append t sz bytes s x) 1 d K fr tk τ = (sz ≠ 0 ∧ amK t sz bytes (tO fr s) (tO fr x).list d K fr tk τ):=by
 simp only [tG,tOp,amK]
 by_cases h:sz = 0
 · simp [h,opK]
 · simp only [h,if_false,ne_eq,not_false_eq_true,true_and]
   cases (tO fr x).list with
   | none => rfl
   | some xs =>
    simp only [Option.bind_some,if_true]
    cases ir t sz bytes (tO fr s) xs τ <;> rfl
theorem zbal (t sz bytes:Nat) (xs:List TV):amK t sz bytes .slz (some xs) d K fr tk τ = ((xs ≠ [] ∧ xs.all (fun e => e.cells.length == sz && e.pure) = true) ∧ (xs.length * bytes ≤ 140737488355328 ∧ xs.length ≤ maxLen) ∧ K (dh fr d (.slm τ.next 0 xs.length sz)) tk (τ.push ⟨t,xs.flatMap TV.cells⟩)):=by
 simp only [amK,ir]
 by_cases h:xs ≠ [] ∧ xs.all (fun e => e.cells.length == sz && e.pure) = true
 · rw [if_pos h]
   by_cases h2:xs.length * bytes ≤ 140737488355328 ∧ xs.length ≤ maxLen
   · rw [if_pos h2]; exact propext ⟨fun q => ⟨h,h2,q⟩,fun q => q.2.2⟩
   · rw [if_neg h2]; exact propext ⟨False.elim,fun q => h2 q.2.1⟩
 · rw [if_neg h]; exact propext ⟨False.elim,fun q => h q.1⟩
theorem zbam (t sz bytes id n:Nat) (xs:List TV):amK t sz bytes (.slm id 0 n sz) (some xs) d K fr tk τ = ((xs ≠ [] ∧ xs.all (fun e => e.cells.length == sz && e.pure) = true) ∧ amO (τ.at id) t sz bytes id n xs d K fr tk τ):=by
 simp only [amK,ir,amO]
 by_cases h:xs ≠ [] ∧ xs.all (fun e => e.cells.length == sz && e.pure) = true
 · rw [if_pos h]
   cases τ.at id with
   | none => exact propext ⟨False.elim,fun q => q.2⟩
   | some b =>
    simp only [Option.bind_some,true_and]
    by_cases h2:b.t = t ∧ b.cs.length = n * sz ∧ n ≠ 0 ∧ τ.lock ≤ id ∧ (n + xs.length) * bytes ≤ 140737488355328 ∧ n + xs.length ≤ maxLen
    · rw [if_pos h2]; exact propext ⟨fun q => ⟨h,h2,q⟩,fun q => q.2.2⟩
    · rw [if_neg h2]; exact propext ⟨False.elim,fun q => h2 q.2.1⟩
 · rw [if_neg h]; exact propext ⟨False.elim,fun q => h q.1⟩
theorem zb06 (t u sz bytes id n:Nat) (cs xs:List TV):amO (some ⟨u,cs⟩) t sz bytes id n xs d K fr tk τ = ((u = t ∧ cs.length = n * sz ∧ n ≠ 0 ∧ τ.lock ≤ id ∧ (n + xs.length) * bytes ≤ 140737488355328 ∧ n + xs.length ≤ maxLen) ∧ K (dh fr d (.slm τ.next 0 (n + xs.length) sz)) tk ((τ.put id ⟨t,[]⟩).push ⟨t,cs ++ xs.flatMap TV.cells⟩)):=rfl
def atK (t sz bytes:Nat) (s:TV) (o:Option (List TV)) (d:Option Nat) (K:ak) (fr:TF) (tk:TK) (τ:TH):Prop:=match o with
 | some xs => (match zaf9 t sz bytes s xs τ with | some (v,τ') => K (dh fr d v) tk τ' | none => False)
 | none => False
def atO (b:Option Ob) (t sz bytes id n:Nat) (xs:List TV) (d:Option Nat) (K:ak) (fr:TF) (tk:TK) (τ:TH):Prop:=match b with
 | some b => (b.t = t ∧ n * sz ≤ b.cs.length ∧ b.cs ≠ [] ∧ τ.lock ≤ id ∧ (n + xs.length) * bytes ≤ 140737488355328 ∧ n + xs.length ≤ maxLen) ∧ K (dh fr d (.slm τ.next 0 (n + xs.length) sz)) tk ((τ.put id ⟨t,[]⟩).push ⟨t,b.cs.take (n * sz) ++ xs.flatMap TV.cells⟩)
 | none => False
theorem zb5y (t sz bytes:Nat) (s x:Operand):tG Γ dr (.append t sz bytes s x) 4 d K fr tk τ = (sz ≠ 0 ∧ atK t sz bytes (tO fr s) (tO fr x).list d K fr tk τ):=by
 simp only [tG,tOp,atK]
 by_cases h:sz = 0
 · simp [h,opK]
 · simp only [h,if_false,ne_eq,not_false_eq_true,true_and]
   cases (tO fr x).list with
   | none => rfl
   | some xs =>
    simp only [Option.bind_some,if_true]
    cases zaf9 t sz bytes (tO fr s) xs τ <;> rfl
theorem zbae (t sz bytes id n:Nat) (xs:List TV):atK t sz bytes (.slm id 0 n sz) (some xs) d K fr tk τ = ((xs ≠ [] ∧ xs.all (fun e => e.cells.length == sz && e.pure) = true) ∧ atO (τ.at id) t sz bytes id n xs d K fr tk τ):=by
 simp only [atK,zaf9,atO]
 by_cases h:xs ≠ [] ∧ xs.all (fun e => e.cells.length == sz && e.pure) = true
 · rw [if_pos h]
   cases τ.at id with
   | none => exact propext ⟨False.elim,fun q => q.2⟩
   | some b =>
    simp only [Option.bind_some,true_and]
    by_cases h2:b.t = t ∧ n * sz ≤ b.cs.length ∧ b.cs ≠ [] ∧ τ.lock ≤ id ∧ (n + xs.length) * bytes ≤ 140737488355328 ∧ n + xs.length ≤ maxLen
    · rw [if_pos h2]; exact propext ⟨fun q => ⟨h,h2,q⟩,fun q => q.2.2⟩
    · rw [if_neg h2]; exact propext ⟨False.elim,fun q => h2 q.2.1⟩
 · rw [if_neg h]; exact propext ⟨False.elim,fun q => h q.1⟩
theorem zb1c (t u sz bytes id n:Nat) (cs xs:List TV):atO (some ⟨u,cs⟩) t sz bytes id n xs d K fr tk τ = ((u = t ∧ n * sz ≤ cs.length ∧ cs ≠ [] ∧ τ.lock ≤ id ∧ (n + xs.length) * bytes ≤ 140737488355328 ∧ n + xs.length ≤ maxLen) ∧ K (dh fr d (.slm τ.next 0 (n + xs.length) sz)) tk ((τ.put id ⟨t,[]⟩).push ⟨t,cs.take (n * sz) ++ xs.flatMap TV.cells⟩)):=rfl
theorem zbai (t sz bytes:Nat) (xs:List TV):apK t sz bytes .slz (some xs) d K fr tk τ = ((xs.all (fun e => e.cells.length == sz && e.pure) = true ∧ xs.length * bytes ≤ 140737488355328 ∧ xs.length ≤ maxLen) ∧ K (dh fr d (.sla tk.length xs)) (tk ++ [some (xs.length,t)]) τ):=by
 simp only [apK,i8]
 by_cases h:xs.all (fun e => e.cells.length == sz && e.pure) = true ∧ xs.length * bytes ≤ 140737488355328 ∧ xs.length ≤ maxLen
 · rw [if_pos h]; simp only [h,and_self,true_and]
 · rw [if_neg h]; simp only [h,false_and]
theorem zbak (t sz bytes tok:Nat) (l xs:List TV):apK t sz bytes (.sla tok l) (some xs) d K fr tk τ = apT (tk[tok]?) t sz bytes tok l xs d K fr tk τ:=by
 simp only [apK,i8,apT]
 by_cases h:xs.all (fun e => e.cells.length == sz && e.pure) = true ∧ xs.length * bytes ≤ 140737488355328 ∧ xs.length ≤ maxLen
 · rw [if_pos h]
   cases tk[tok]? with
   | none => rfl
   | some o =>
    cases o with
    | none => rfl
    | some p =>
     obtain ⟨n,t'⟩:=p
     simp only
     by_cases h2:n = l.length ∧ (n = 0 ∨ t' = t) ∧ (l.all (fun e => e.cells.length == sz) = true) ∧ (l.length + xs.length) * bytes ≤ 140737488355328 ∧ l.length + xs.length ≤ maxLen
     · rw [if_pos h2]; exact propext ⟨fun q => ⟨⟨h,h2⟩,q⟩,fun q => q.2⟩
     · rw [if_neg h2]; simp only [h2,and_false,false_and]
 · rw [if_neg h]
   cases tk[tok]? with
   | none => rfl
   | some o =>
    cases o with
    | none => rfl
    | some p => simp only [h,false_and]
theorem zb08 (n t' t sz bytes tok:Nat) (l xs:List TV):apT (some (some (n,t'))) t sz bytes tok l xs d K fr tk τ = (((xs.all (fun e => e.cells.length == sz && e.pure) = true ∧ xs.length * bytes ≤ 140737488355328 ∧ xs.length ≤ maxLen) ∧ n = l.length ∧ (n = 0 ∨ t' = t) ∧ (l.all (fun e => e.cells.length == sz) = true) ∧ (l.length + xs.length) * bytes ≤ 140737488355328 ∧ l.length + xs.length ≤ maxLen) ∧ K (dh fr d (.sla tok (l ++ xs))) (tk.set tok (some (l.length + xs.length,t))) τ):=rfl
def apB (o:Option (Option (Nat × TypeId))) (t sz bytes tok t0:Nat) (xs:List TV) (d:Option Nat) (K:ak) (fr:TF) (tk:TK) (τ:TH):Prop:=match o with
 | some (some (n,t')) => ((xs.all (fun e => e.cells.length == sz && e.pure) = true ∧ xs.length * bytes ≤ 140737488355328 ∧ xs.length ≤ maxLen) ∧ n = 0 ∧ t0 = t ∧ sz = 1 ∧ xs ≠ []) ∧
  K (dh fr d (.sla tok xs)) (tk.set tok (some (xs.length,t))) τ
 | _ => False
theorem zbaj (t sz bytes tok t0:Nat) (xs:List TV):apK t sz bytes (.slb tok t0) (some xs) d K fr tk τ = apB (tk[tok]?) t sz bytes tok t0 xs d K fr tk τ:=by
 simp only [apK,i8,apB]
 by_cases h:xs.all (fun e => e.cells.length == sz && e.pure) = true ∧ xs.length * bytes ≤ 140737488355328 ∧ xs.length ≤ maxLen
 · rw [if_pos h]
   cases tk[tok]? with
   | none => rfl
   | some o =>
    cases o with
    | none => rfl
    | some p =>
     obtain ⟨n,t'⟩:=p
     simp only
     by_cases h2:n = 0 ∧ t0 = t ∧ sz = 1 ∧ xs ≠ []
     · rw [if_pos h2]; exact propext ⟨fun q => ⟨⟨h,h2⟩,q⟩,fun q => q.2⟩
     · rw [if_neg h2]; simp only [h2,and_false,false_and]
 · rw [if_neg h]
   cases tk[tok]? with
   | none => rfl
   | some o =>
    cases o with
    | none => rfl
    | some p => simp only [h,false_and]
theorem zb07 (n t' t sz bytes tok t0:Nat) (xs:List TV):apB (some (some (n,t'))) t sz bytes tok t0 xs d K fr tk τ = (((xs.all (fun e => e.cells.length == sz && e.pure) = true ∧ xs.length * bytes ≤ 140737488355328 ∧ xs.length ≤ maxLen) ∧ n = 0 ∧ t0 = t ∧ sz = 1 ∧ xs ≠ []) ∧ K (dh fr d (.sla tok xs)) (tk.set tok (some (xs.length,t))) τ):=rfl
def asK (t:Nat) (s x:TV) (d:Option Nat) (K:ak) (fr:TF) (tk:TK) (τ:TH):Prop:=match x with | .str b => apK t 1 1 s (some (az b)) d K fr tk τ | _ => False
theorem zb5z (t:Nat) (s x:Operand):tG Γ dr (.appendS t s x) m d K fr tk τ = asK t (tO fr s) (tO fr x) d K fr tk τ:=by
 simp only [tG,tOp,asK,apK]
 cases tO fr x with
 | str b => simp only; cases i8 t 1 1 (tO fr s) (az b) tk <;> rfl
 | _ => rfl
theorem zbk4 (t:Nat) (s:TV) (b:ByteArray):asK t s (.str b) d K fr tk τ = apK t 1 1 s (some (az b)) d K fr tk τ:=rfl
def tbK (mu:Bool) (t:Nat) (x:TV) (d:Option Nat) (K:ak) (fr:TF) (tk:TK) (τ:TH):Prop:=match x with | .str s => (bif mu then K (dh fr d (.slm τ.next 0 s.size 1)) tk (τ.push ⟨t,az s⟩) else K (dh fr d (.sl (az s))) tk τ) | _ => False
theorem zbuj (t:Nat) (x:Operand):tG Γ dr (.toBytes t x) 0 d K fr tk τ = tbK false t (tO fr x) d K fr tk τ:=by
 simp only [tG,tOp,tbK]
 cases tO fr x <;> rfl
theorem zbuk (t:Nat) (x:Operand):tG Γ dr (.toBytes t x) 1 d K fr tk τ = tbK true t (tO fr x) d K fr tk τ:=by
 simp only [tG,tOp,tbK]
 cases tO fr x <;> rfl
def tbA (t:Nat) (x:TV) (d:Option Nat) (K:ak) (fr:TF) (tk:TK) (τ:TH):Prop:=match x with | .str s => K (dh fr d (if s.size = 0 then .slb tk.length t else .sla tk.length (az s))) (tk ++ [some (s.size,t)]) τ | _ => False
theorem zbul (t:Nat) (x:Operand):tG Γ dr (.toBytes t x) 2 d K fr tk τ = tbA t (tO fr x) d K fr tk τ:=by
 simp only [tG,tOp,tbA]
 cases tO fr x <;> rfl
theorem zbjy (t:Nat) (s:ByteArray):tbA t (.str s) d K fr tk τ = K (dh fr d (if s.size = 0 then .slb tk.length t else .sla tk.length (az s))) (tk ++ [some (s.size,t)]) τ:=rfl
theorem zbjx (mu:Bool) (t:Nat) (s:ByteArray):tbK mu t (.str s) d K fr tk τ = (bif mu then K (dh fr d (.slm τ.next 0 s.size 1)) tk (τ.push ⟨t,az s⟩) else K (dh fr d (.sl (az s))) tk τ):=rfl
theorem zbk8 (t:Nat):tO fr (.tmp t) = lkp fr t:=rfl
theorem zbfh (k:IntKind) (n:Int):tO fr (.const (.int k n)) = .int k n:=rfl
theorem zbaz (c:Bool):tO fr (.const (.bool c)) = .bool c:=rfl
theorem zbfg (s:ByteArray):tO fr (.const (.string s)) = .str s:=rfl
theorem zbav:tO fr (.const (.pointer none)) = .nilP:=rfl
theorem zbau:tO fr (.const (.slice none 0 0)) = .slz:=rfl
theorem zbaw:tO fr (.const (.map none)) = .nilM:=rfl
theorem zbay:tO fr (.const .nilFunc) = .nilF:=rfl
theorem zbax:tO fr (.const .nilIface) = .nilI:=rfl
theorem zbff (f:FuncId):tO fr (.func f) = .func f [] []:=rfl
theorem zbfi (cs:List Value):tO fr (.const (.agg cs.toArray)) = .agg (cs.map ofS):=rfl
theorem za77 (k:IntKind) (n:Int):ofS (.int k n) = .int k n:=rfl
theorem zb3b (c:Bool):ofS (.bool c) = .bool c:=rfl
theorem za76 (s:ByteArray):ofS (.string s) = .str s:=rfl
theorem zb38:ofS (.pointer none) = .nilP:=rfl
theorem zb39:ofS (.slice none 0 0) = .slz:=rfl
theorem zb37:ofS (.map none) = .nilM:=rfl
theorem zb3c:ofS .nilFunc = .nilF:=rfl
theorem zb36:ofS .nilIface = .nilI:=rfl
theorem za8u (t:Nat) (v:TV) (l:TF):lkp ((t,v) :: l) t = v:=by simp [lkp]
theorem zb20 (t k:Nat) (v:TV) (l:TF) (h:(t = k) = False):lkp ((k,v) :: l) t = lkp l t:=by simp [lkp,h]
theorem zbtp (t:Nat) (v:TV):dh fr (some t) v = (t,v) :: fr:=rfl
theorem zbto (v:TV):dh fr none v = fr:=rfl
theorem zbd1:sel lv fr = lv.map fun t => (t,lkp fr t):=rfl
theorem zb1b (k:Nat):zbbf k [] = []:=rfl
theorem zbrh (k:Nat) (v:TV) (l:List TV):zbbf k (v :: l) = (k,v) :: zbbf (k + 1) l:=rfl
end
theorem zbwl  :TV.cells  TV.undef = [TV.undef ]:=rfl
theorem zbvf  (b:Bool):TV.cells  (TV.bool b) = [TV.bool b]:=rfl
theorem zbrt  (k:IntKind) (n:Int):TV.cells  (TV.int k n) = [TV.int k n]:=rfl
theorem zbr0  (s:ByteArray):TV.cells  (TV.str s) = [TV.str s]:=rfl
theorem zbvk  :TV.cells  TV.nilP = [TV.nilP ]:=rfl
theorem zbru  (id off:Nat):TV.cells  (TV.ptr id off) = [TV.ptr id off]:=rfl
theorem zbvl  (cs:List TV) (off:Nat):TV.cells  (TV.rptr cs off) = [TV.rptr cs off]:=rfl
theorem zbrz  :TV.cells  TV.slz = [TV.slz ]:=rfl
theorem zb18  (l:List TV):TV.cells  (TV.sl l) = [TV.sl l]:=rfl
theorem zbrv  (k:Nat) (l:List TV):TV.cells  (TV.sla k l) = [TV.sla k l]:=rfl
theorem zbrw  (k:Nat) (t:TypeId):TV.cells  (TV.slb k t) = [TV.slb k t]:=rfl
theorem zbry  (t:TypeId) (l:List TV):TV.cells  (TV.slo t l) = [TV.slo t l]:=rfl
theorem zbrx  (id off n sz:Nat):TV.cells  (TV.slm id off n sz) = [TV.slm id off n sz]:=rfl
theorem zbvj  :TV.cells  TV.nilM = [TV.nilM ]:=rfl
theorem zbvh  :TV.cells  TV.nilF = [TV.nilF ]:=rfl
theorem zbvg  (f:FuncId) (a b:List TV):TV.cells  (TV.func f a b) = [TV.func f a b]:=rfl
theorem zbvi  :TV.cells  TV.nilI = [TV.nilI ]:=rfl
theorem zbrs  (cs:List TV):TV.cells  (TV.agg cs) = cs:=rfl
theorem zbrk  (cs:List TV):TV.cells  (TV.tup cs) = [TV.tup cs]:=rfl
theorem zbsh  :TV.one  TV.undef = false:=rfl
theorem zb4a  (b:Bool):TV.one  (TV.bool b) = true:=rfl
theorem za6d  (k:IntKind) (n:Int):TV.one  (TV.int k n) = true:=rfl
theorem za4v  (s:ByteArray):TV.one  (TV.str s) = true:=rfl
theorem zb4f  :TV.one  TV.nilP = true:=rfl
theorem za53  (id off:Nat):TV.one  (TV.ptr id off) = true:=rfl
theorem zb3l  (cs:List TV) (off:Nat):TV.one  (TV.rptr cs off) = false:=rfl
theorem za4w  :TV.one  TV.slz = true:=rfl
theorem zbej  (l:List TV):TV.one  (TV.sl l) = true:=rfl
theorem za5f  (k:Nat) (l:List TV):TV.one  (TV.sla k l) = true:=rfl
theorem za5e  (k:Nat) (t:TypeId):TV.one  (TV.slb k t) = true:=rfl
theorem za4x  (t:TypeId) (l:List TV):TV.one  (TV.slo t l) = true:=rfl
theorem za5d  (id off n sz:Nat):TV.one  (TV.slm id off n sz) = true:=rfl
theorem zb4e  :TV.one  TV.nilM = true:=rfl
theorem zb4c  :TV.one  TV.nilF = true:=rfl
theorem zb4b  (f:FuncId) (a b:List TV):TV.one  (TV.func f a b) = true:=rfl
theorem zb4d  :TV.one  TV.nilI = true:=rfl
theorem za6m  (cs:List TV):TV.one  (TV.agg cs) = false:=rfl
theorem za4j  (cs:List TV):TV.one  (TV.tup cs) = false:=rfl
theorem zbwr  :TV.known  TV.undef = false:=rfl
theorem zbu0  (b:Bool):TV.known  (TV.bool b) = true:=rfl
theorem zbr2  (k:IntKind) (n:Int):TV.known  (TV.int k n) = true:=rfl
theorem zbr9  (s:ByteArray):TV.known  (TV.str s) = true:=rfl
theorem zbu5  :TV.known  TV.nilP = true:=rfl
theorem zbr3  (id off:Nat):TV.known  (TV.ptr id off) = true:=rfl
theorem zbu6  (cs:List TV) (off:Nat):TV.known  (TV.rptr cs off) = true:=rfl
theorem zbr8  :TV.known  TV.slz = true:=rfl
theorem zb2q  (l:List TV):TV.known  (TV.sl l) = true:=rfl
theorem zbr4  (k:Nat) (l:List TV):TV.known  (TV.sla k l) = true:=rfl
theorem zbr5  (k:Nat) (t:TypeId):TV.known  (TV.slb k t) = true:=rfl
theorem zbr7  (t:TypeId) (l:List TV):TV.known  (TV.slo t l) = true:=rfl
theorem zbr6  (id off n sz:Nat):TV.known  (TV.slm id off n sz) = true:=rfl
theorem zbu4  :TV.known  TV.nilM = true:=rfl
theorem zbu2  :TV.known  TV.nilF = true:=rfl
theorem zbu1  (f:FuncId) (a b:List TV):TV.known  (TV.func f a b) = true:=rfl
theorem zbu3  :TV.known  TV.nilI = true:=rfl
theorem zbr1  (cs:List TV):TV.known  (TV.agg cs) = true:=rfl
theorem zbsa  (cs:List TV):TV.known  (TV.tup cs) = true:=rfl
theorem zbuq  :TV.canS  TV.undef = TV.undef :=rfl
theorem zbq2  (b:Bool):TV.canS  (TV.bool b) = TV.bool b:=rfl
theorem zb2k  (k:IntKind) (n:Int):TV.canS  (TV.int k n) = TV.int k n:=rfl
theorem zb1w  (s:ByteArray):TV.canS  (TV.str s) = TV.str s:=rfl
theorem zbq7  :TV.canS  TV.nilP = TV.nilP :=rfl
theorem zb2l  (id off:Nat):TV.canS  (TV.ptr id off) = TV.ptr id off:=rfl
theorem zbq8  (cs:List TV) (off:Nat):TV.canS  (TV.rptr cs off) = TV.rptr cs off:=rfl
theorem zb1v  :TV.canS  TV.slz = .sl []:=rfl
theorem za9y  (l:List TV):TV.canS  (TV.sl l) = TV.sl l:=rfl
theorem zb2m  (k:Nat) (l:List TV):TV.canS  (TV.sla k l) = .sl l:=rfl
theorem zb2n  (k:Nat) (t:TypeId):TV.canS  (TV.slb k t) = .sl []:=rfl
theorem zb2p  (t:TypeId) (l:List TV):TV.canS  (TV.slo t l) = TV.slo t l:=rfl
theorem zb2o  (id off n sz:Nat):TV.canS  (TV.slm id off n sz) = TV.slm id off n sz:=rfl
theorem zbq6  :TV.canS  TV.nilM = TV.nilM :=rfl
theorem zbq4  :TV.canS  TV.nilF = TV.nilF :=rfl
theorem zbq3  (f:FuncId) (a b:List TV):TV.canS  (TV.func f a b) = TV.func f a b:=rfl
theorem zbq5  :TV.canS  TV.nilI = TV.nilI :=rfl
theorem zb2j  (cs:List TV):TV.canS  (TV.agg cs) = TV.agg cs:=rfl
theorem zb1x  (cs:List TV):TV.canS  (TV.tup cs) = TV.tup cs:=rfl
theorem zbup  :TV.canA  TV.undef = TV.undef :=rfl
theorem zbqv  (b:Bool):TV.canA  (TV.bool b) = TV.bool b:=rfl
theorem zb1j  (k:IntKind) (n:Int):TV.canA  (TV.int k n) = TV.int k n:=rfl
theorem zb2h  (s:ByteArray):TV.canA  (TV.str s) = TV.str s:=rfl
theorem zbq0  :TV.canA  TV.nilP = TV.nilP :=rfl
theorem zb1k  (id off:Nat):TV.canA  (TV.ptr id off) = TV.ptr id off:=rfl
theorem zbq1  (cs:List TV) (off:Nat):TV.canA  (TV.rptr cs off) = TV.rptr cs off:=rfl
theorem zb2g  :TV.canA  TV.slz = .sl []:=rfl
theorem za9z  (l:List TV):TV.canA  (TV.sl l) = TV.sl l:=rfl
theorem zb1l  (k:Nat) (l:List TV):TV.canA  (TV.sla k l) = .sl l:=rfl
theorem zb1m  (k:Nat) (t:TypeId):TV.canA  (TV.slb k t) = .sl []:=rfl
theorem zb1o  (t:TypeId) (l:List TV):TV.canA  (TV.slo t l) = TV.slo t l:=rfl
theorem zb1n  (id off n sz:Nat):TV.canA  (TV.slm id off n sz) = TV.slm id off n sz:=rfl
theorem zbqz  :TV.canA  TV.nilM = TV.nilM :=rfl
theorem zbqx  :TV.canA  TV.nilF = TV.nilF :=rfl
theorem zbqw  (f:FuncId) (a b:List TV):TV.canA  (TV.func f a b) = TV.func f a b:=rfl
theorem zbqy  :TV.canA  TV.nilI = TV.nilI :=rfl
theorem zb1i  (cs:List TV):TV.canA  (TV.agg cs) = .agg (cs.map TV.canS):=rfl
theorem zb2i  (cs:List TV):TV.canA  (TV.tup cs) = TV.tup cs:=rfl
theorem zbur  :TV.canT  TV.undef = TV.undef :=rfl
theorem zbq9  (b:Bool):TV.canT  (TV.bool b) = TV.bool b:=rfl
theorem zb1z  (k:IntKind) (n:Int):TV.canT  (TV.int k n) = TV.int k n:=rfl
theorem zb16  (s:ByteArray):TV.canT  (TV.str s) = TV.str s:=rfl
theorem zbre  :TV.canT  TV.nilP = TV.nilP :=rfl
theorem zb10  (id off:Nat):TV.canT  (TV.ptr id off) = TV.ptr id off:=rfl
theorem zbrr  (cs:List TV) (off:Nat):TV.canT  (TV.rptr cs off) = TV.rptr cs off:=rfl
theorem zb15  :TV.canT  TV.slz = .sl []:=rfl
theorem za9x  (l:List TV):TV.canT  (TV.sl l) = TV.sl l:=rfl
theorem zb11  (k:Nat) (l:List TV):TV.canT  (TV.sla k l) = .sl l:=rfl
theorem zb12  (k:Nat) (t:TypeId):TV.canT  (TV.slb k t) = .sl []:=rfl
theorem zb14  (t:TypeId) (l:List TV):TV.canT  (TV.slo t l) = TV.slo t l:=rfl
theorem zb13  (id off n sz:Nat):TV.canT  (TV.slm id off n sz) = TV.slm id off n sz:=rfl
theorem zbrd  :TV.canT  TV.nilM = TV.nilM :=rfl
theorem zbrb  :TV.canT  TV.nilF = TV.nilF :=rfl
theorem zbra  (f:FuncId) (a b:List TV):TV.canT  (TV.func f a b) = TV.func f a b:=rfl
theorem zbrc  :TV.canT  TV.nilI = TV.nilI :=rfl
theorem zb1y  (cs:List TV):TV.canT  (TV.agg cs) = .agg (cs.map TV.canS):=rfl
theorem zb17  (cs:List TV):TV.canT  (TV.tup cs) = .tup (cs.map TV.canA):=rfl
theorem zbvd  :TV.part  TV.undef = TV.undef :=rfl
theorem zbsi  (b:Bool):TV.part  (TV.bool b) = TV.bool b:=rfl
theorem zb3o  (k:IntKind) (n:Int):TV.part  (TV.int k n) = TV.int k n:=rfl
theorem zb3v  (s:ByteArray):TV.part  (TV.str s) = TV.str s:=rfl
theorem zbso  :TV.part  TV.nilP = TV.nilP :=rfl
theorem zb3p  (id off:Nat):TV.part  (TV.ptr id off) = TV.ptr id off:=rfl
theorem zbs8  (cs:List TV) (off:Nat):TV.part  (TV.rptr cs off) = TV.rptr cs off:=rfl
theorem zb3u  :TV.part  TV.slz = TV.slz :=rfl
theorem za20  (l:List TV):TV.part  (TV.sl l) = TV.sl l:=rfl
theorem zb3q  (k:Nat) (l:List TV):TV.part  (TV.sla k l) = .sl l:=rfl
theorem zb3r  (k:Nat) (t:TypeId):TV.part  (TV.slb k t) = .sl []:=rfl
theorem zb3t  (t:TypeId) (l:List TV):TV.part  (TV.slo t l) = TV.slo t l:=rfl
theorem zb3s  (id off n sz:Nat):TV.part  (TV.slm id off n sz) = TV.slm id off n sz:=rfl
theorem zbsn  :TV.part  TV.nilM = TV.nilM :=rfl
theorem zbsl  :TV.part  TV.nilF = TV.nilF :=rfl
theorem zbsk  (f:FuncId) (a b:List TV):TV.part  (TV.func f a b) = TV.func f a b:=rfl
theorem zbsm  :TV.part  TV.nilI = TV.nilI :=rfl
theorem zb3n  (cs:List TV):TV.part  (TV.agg cs) = TV.agg cs:=rfl
theorem zb3w  (cs:List TV):TV.part  (TV.tup cs) = TV.tup cs:=rfl
theorem zbs1  :TV.put  TV.undef = TV.undef :=rfl
theorem zb41  (b:Bool):TV.put  (TV.bool b) = TV.bool b:=rfl
theorem za1o  (k:IntKind) (n:Int):TV.put  (TV.int k n) = TV.int k n:=rfl
theorem za0j  (s:ByteArray):TV.put  (TV.str s) = TV.str s:=rfl
theorem zb46  :TV.put  TV.nilP = TV.nilP :=rfl
theorem za1n  (id off:Nat):TV.put  (TV.ptr id off) = TV.ptr id off:=rfl
theorem zb47  (cs:List TV) (off:Nat):TV.put  (TV.rptr cs off) = TV.rptr cs off:=rfl
theorem za0l  :TV.put  TV.slz = TV.slz :=rfl
theorem zbeg  (l:List TV):TV.put  (TV.sl l) = TV.sl l:=rfl
theorem za03  (k:Nat) (l:List TV):TV.put  (TV.sla k l) = .sl l:=rfl
theorem za02  (k:Nat) (t:TypeId):TV.put  (TV.slb k t) = .sl []:=rfl
theorem za0m  (t:TypeId) (l:List TV):TV.put  (TV.slo t l) = TV.slo t l:=rfl
theorem za0x  (id off n sz:Nat):TV.put  (TV.slm id off n sz) = TV.slm id off n sz:=rfl
theorem zb45  :TV.put  TV.nilM = TV.nilM :=rfl
theorem zb43  :TV.put  TV.nilF = TV.nilF :=rfl
theorem zb42  (f:FuncId) (a b:List TV):TV.put  (TV.func f a b) = TV.func f a b:=rfl
theorem zb44  :TV.put  TV.nilI = TV.nilI :=rfl
theorem za1p  (cs:List TV):TV.put  (TV.agg cs) = TV.agg cs:=rfl
theorem zaz8  (cs:List TV):TV.put  (TV.tup cs) = TV.tup cs:=rfl
theorem zb4g  :TV.rd  TV.undef = TV.undef :=rfl
theorem zayx  (b:Bool):TV.rd  (TV.bool b) = TV.bool b:=rfl
theorem zbee  (k:IntKind) (n:Int):TV.rd  (TV.int k n) = TV.int k n:=rfl
theorem zbd7  (s:ByteArray):TV.rd  (TV.str s) = TV.str s:=rfl
theorem zavb  :TV.rd  TV.nilP = TV.nilP :=rfl
theorem zbed  (id off:Nat):TV.rd  (TV.ptr id off) = TV.ptr id off:=rfl
theorem zau5  (cs:List TV) (off:Nat):TV.rd  (TV.rptr cs off) = TV.rptr cs off:=rfl
theorem zbd8  :TV.rd  TV.slz = TV.slz :=rfl
theorem zbj6  (l:List TV):TV.rd  (TV.sl l) = TV.sl l:=rfl
theorem zbec  (k:Nat) (l:List TV):TV.rd  (TV.sla k l) = TV.sla k l:=rfl
theorem zbeb  (k:Nat) (t:TypeId):TV.rd  (TV.slb k t) = TV.slb k t:=rfl
theorem zbd9  (t:TypeId) (l:List TV):TV.rd  (TV.slo t l) = .sl l:=rfl
theorem zbea  (id off n sz:Nat):TV.rd  (TV.slm id off n sz) = TV.slm id off n sz:=rfl
theorem zaw6  :TV.rd  TV.nilM = TV.nilM :=rfl
theorem zayf  :TV.rd  TV.nilF = TV.nilF :=rfl
theorem zayw  (f:FuncId) (a b:List TV):TV.rd  (TV.func f a b) = TV.func f a b:=rfl
theorem zax0  :TV.rd  TV.nilI = TV.nilI :=rfl
theorem zbef  (cs:List TV):TV.rd  (TV.agg cs) = TV.agg cs:=rfl
theorem zbd6  (cs:List TV):TV.rd  (TV.tup cs) = TV.tup cs:=rfl
theorem zb2y  :TV.list  TV.slz = some []:=rfl
theorem za8v  (l:List TV):TV.list  (TV.sl l) = some l:=rfl
theorem zb2x  (k:Nat) (l:List TV):TV.list  (TV.sla k l) = some l:=rfl
theorem zbxx  :TV.pureS  TV.undef = false:=rfl
theorem zbv6  (b:Bool):TV.pureS  (TV.bool b) = true:=rfl
theorem zbte  (k:IntKind) (n:Int):TV.pureS  (TV.int k n) = true:=rfl
theorem zbst  (s:ByteArray):TV.pureS  (TV.str s) = true:=rfl
theorem zbwa  :TV.pureS  TV.nilP = true:=rfl
theorem zbtf  (id off:Nat):TV.pureS  (TV.ptr id off) = false:=rfl
theorem zbwb  (cs:List TV) (off:Nat):TV.pureS  (TV.rptr cs off) = false:=rfl
theorem zbss  :TV.pureS  TV.slz = false:=rfl
theorem zb3x  (l:List TV):TV.pureS  (TV.sl l) = true:=rfl
theorem zbtg  (k:Nat) (l:List TV):TV.pureS  (TV.sla k l) = false:=rfl
theorem zbsp  (k:Nat) (t:TypeId):TV.pureS  (TV.slb k t) = false:=rfl
theorem zbsr  (t:TypeId) (l:List TV):TV.pureS  (TV.slo t l) = false:=rfl
theorem zbsq  (id off n sz:Nat):TV.pureS  (TV.slm id off n sz) = false:=rfl
theorem zbv9  :TV.pureS  TV.nilM = true:=rfl
theorem zbv7  :TV.pureS  TV.nilF = true:=rfl
theorem zbv8  :TV.pureS  TV.nilI = true:=rfl
theorem zbtd  (cs:List TV):TV.pureS  (TV.agg cs) = false:=rfl
theorem zbsu  (cs:List TV):TV.pureS  (TV.tup cs) = false:=rfl
theorem zbxw (f:FuncId):TV.pureS (.func f [] []) = true:=rfl
theorem zbwc  :TV.pure  TV.undef = false:=rfl
theorem zbsv  (b:Bool):TV.pure  (TV.bool b) = true:=rfl
theorem zb3z  (k:IntKind) (n:Int):TV.pure  (TV.int k n) = true:=rfl
theorem zb4z  (s:ByteArray):TV.pure  (TV.str s) = true:=rfl
theorem zbsz  :TV.pure  TV.nilP = true:=rfl
theorem zb30  (id off:Nat):TV.pure  (TV.ptr id off) = false:=rfl
theorem zbs0  (cs:List TV) (off:Nat):TV.pure  (TV.rptr cs off) = false:=rfl
theorem zb35  :TV.pure  TV.slz = false:=rfl
theorem za2i  (l:List TV):TV.pure  (TV.sl l) = true:=rfl
theorem zb31  (k:Nat) (l:List TV):TV.pure  (TV.sla k l) = false:=rfl
theorem zb32  (k:Nat) (t:TypeId):TV.pure  (TV.slb k t) = false:=rfl
theorem zb34  (t:TypeId) (l:List TV):TV.pure  (TV.slo t l) = false:=rfl
theorem zb33  (id off n sz:Nat):TV.pure  (TV.slm id off n sz) = false:=rfl
theorem zbsy  :TV.pure  TV.nilM = true:=rfl
theorem zbsw  :TV.pure  TV.nilF = true:=rfl
theorem zbsx  :TV.pure  TV.nilI = true:=rfl
theorem zb3y  (cs:List TV):TV.pure  (TV.agg cs) = cs.all TV.pureS:=rfl
theorem zb40  (cs:List TV):TV.pure  (TV.tup cs) = false:=rfl
theorem zbx2 (n:Nat) :TV.under n TV.undef = true:=by simp [TV.under]
theorem zb23 (n m:Nat) :TV.lt n m TV.undef = true:=by simp [TV.lt]
theorem zbvx (n:Nat) (b:Bool):TV.under n (TV.bool b) = true:=by simp [TV.under]
theorem za8m (n m:Nat) (b:Bool):TV.lt n m (TV.bool b) = true:=by simp [TV.lt]
theorem zbtt (n:Nat) (k:IntKind) (q:Int):TV.under n (TV.int k q) = true:=by simp [TV.under]
theorem zbey (n m:Nat) (k:IntKind) (q:Int):TV.lt n m (TV.int k q) = true:=by simp [TV.lt]
theorem zbt0 (n:Nat) (s:ByteArray):TV.under n (TV.str s) = true:=by simp [TV.under]
theorem zber (n m:Nat) (s:ByteArray):TV.lt n m (TV.str s) = true:=by simp [TV.lt]
theorem zbv2 (n:Nat) :TV.under n TV.nilP = true:=by simp [TV.under]
theorem za8f (n m:Nat) :TV.lt n m TV.nilP = true:=by simp [TV.lt]
theorem zbtu (n:Nat) (id off:Nat):TV.under n (TV.ptr id off) = decide (id < n):=by simp [TV.under]
theorem zbex (n m:Nat) (id off:Nat):TV.lt n m (TV.ptr id off) = decide (id < n):=by simp [TV.lt]
theorem zbv3 (n:Nat) (cs:List TV) (off:Nat):TV.under n (TV.rptr cs off) = true:=by simp [TV.under]
theorem za8e (n m:Nat) (cs:List TV) (off:Nat):TV.lt n m (TV.rptr cs off) = true:=by simp [TV.lt]
theorem zbtz (n:Nat) :TV.under n TV.slz = true:=by simp [TV.under]
theorem zbes (n m:Nat) :TV.lt n m TV.slz = true:=by simp [TV.lt]
theorem zb5j (n:Nat) (l:List TV):TV.under n (TV.sl l) = true:=by simp [TV.under]
theorem zbkg (n m:Nat) (l:List TV):TV.lt n m (TV.sl l) = true:=by simp [TV.lt]
theorem zbtv (n:Nat) (k:Nat) (l:List TV):TV.under n (TV.sla k l) = false:=by simp [TV.under]
theorem zbew (n m:Nat) (k:Nat) (l:List TV):TV.lt n m (TV.sla k l) = decide (k < m):=by simp [TV.lt]
theorem zbtw (n:Nat) (k:Nat) (t:TypeId):TV.under n (TV.slb k t) = false:=by simp [TV.under]
theorem zbev (n m:Nat) (k:Nat) (t:TypeId):TV.lt n m (TV.slb k t) = decide (k < m):=by simp [TV.lt]
theorem zbty (n:Nat) (t:TypeId) (l:List TV):TV.under n (TV.slo t l) = true:=by simp [TV.under]
theorem zbet (n m:Nat) (t:TypeId) (l:List TV):TV.lt n m (TV.slo t l) = true:=by simp [TV.lt]
theorem zbtx (n:Nat) (id off q sz:Nat):TV.under n (TV.slm id off q sz) = decide (id < n):=by simp [TV.under]
theorem zbeu (n m:Nat) (id off q sz:Nat):TV.lt n m (TV.slm id off q sz) = decide (id < n):=by simp [TV.lt]
theorem zbv1 (n:Nat) :TV.under n TV.nilM = true:=by simp [TV.under]
theorem za8g (n m:Nat) :TV.lt n m TV.nilM = true:=by simp [TV.lt]
theorem zbvz (n:Nat) :TV.under n TV.nilF = true:=by simp [TV.under]
theorem za8i (n m:Nat) :TV.lt n m TV.nilF = true:=by simp [TV.lt]
theorem zbvy (n:Nat) (f:FuncId) (a b:List TV):TV.under n (TV.func f a b) = (eo n a && eo n b):=by simp [TV.under]
theorem za8l (n m:Nat) (f:FuncId) (a b:List TV):TV.lt n m (TV.func f a b) = (ltL n m a && ltL n m b):=by simp [TV.lt]
theorem zbv0 (n:Nat) :TV.under n TV.nilI = true:=by simp [TV.under]
theorem za8h (n m:Nat) :TV.lt n m TV.nilI = true:=by simp [TV.lt]
theorem zbts (n:Nat) (cs:List TV):TV.under n (TV.agg cs) = eo n cs:=by simp [TV.under]
theorem zbez (n m:Nat) (cs:List TV):TV.lt n m (TV.agg cs) = ltL n m cs:=by simp [TV.lt]
theorem zbt1 (n:Nat) (cs:List TV):TV.under n (TV.tup cs) = eo n cs:=by simp [TV.under]
theorem zbeq (n m:Nat) (cs:List TV):TV.lt n m (TV.tup cs) = ltL n m cs:=by simp [TV.lt]
theorem zbvw (n:Nat):eo n [] = true:=by simp [eo]
theorem zbx1 (n:Nat) (v:TV) (l:List TV):eo n (v :: l) = (v.under n && eo n l):=by simp [eo]
theorem za8n (n m:Nat):ltL n m [] = true:=by simp [ltL]
theorem zb22 (n m:Nat) (v:TV) (l:List TV):ltL n m (v :: l) = (v.lt n m && ltL n m l):=by simp [ltL]
theorem qp {Γ:FuncId → Option TG} {lv:List Nat} {a:TC} {Q:TEx → ak} {fr:TF} {tk:TK} {τ:TH} (h:∀ LQ:TEx → ak,(∀ fr' tk' τ',LQ .normal fr' tk' τ' = zbe9 lv tk τ fr' tk' τ' (tW Γ (.loop lv a) Q)) → (LQ .ret = Q .ret) → (∀ id,LQ (.exit id) = Q (.exit id)) → tW Γ a LQ (sel lv fr) tk τ):tW Γ (.loop lv a) Q fr tk τ:=by
 rw [zbgg]
 exact h _ (fun fr' tk' τ' => zbpv Γ fr' tk tk' τ τ' a lv Q) rfl fun _ => rfl
def mv:List (Nat × TG) → FuncId → Option TG
 | [],_ => none
 | (k,g) :: r,f => if f = k then some g else mv r f
def zbif (P:Program) (l:List (Nat × TG)):Prop:=∀ p ∈ l,match p.2 with
 | .code fn => ∃ H,ud P H p.1 = some (fn.n,fn.c.erase,fn.rs)
 | .prim g => ∀ args τ r τ',g args τ = some (r,τ') → zbbc P p.1 args τ r τ'
theorem zbg1 {P:Program}:zbif P []:=fun p hp => by simp at hp
theorem ba {P:Program} {H:List (Nat × DH)} {f n:Nat} {c:TC} {rs:List R} {fz:Bool} (h:ud P H f = some (n,c.erase,rs)) {l:List (Nat × TG)} (k:zbif P l):zbif P ((f,.code ⟨n,c,rs,fz⟩) :: l):=fun p hp => by
 rcases List.mem_cons.1 hp with rfl | hp
 · exact ⟨H,h⟩
 · exact k p hp
theorem zbne {P:Program} {f:Nat} {g:List TV → TH → Option (TV × TH)} (h:∀ args τ r τ',g args τ = some (r,τ') → zbbc P f args τ r τ') {l:List (Nat × TG)} (k:zbif P l):zbif P ((f,.prim g) :: l):=fun p hp => by
 rcases List.mem_cons.1 hp with rfl | hp
 · exact h
 · exact k p hp
theorem zbrp:∀ {l:List (Nat × TG)} {f:Nat} {g:TG},mv l f = some g → (f,g) ∈ l
 | [],_,_,h => by cases h
 | (k,g) :: r,f,g',h => by
  simp only [mv] at h
  split at h
  · rename_i e; injection h with h; subst e h; simp
  · exact List.mem_cons_of_mem _ (zbrp h)
theorem zbck {P:Program} {l:List (Nat × TG)} (h:zbif P l):GOK P (mv l):=fun f => by
 cases hq:mv l f with
 | none => trivial
 | some g =>
  have:=h _ (zbrp hq)
  cases g with
  | code fn => exact this
  | prim g => exact this
section
variable (τ:TH) (b c:Ob) (id k n:Nat)
def zbhk (o:Option Ob) (off:Nat):Option TV:=match o with | some b => (b.cs[off]?).map TV.rd | none => none
def zbp7 (o:Option Ob) (off n:Nat):Option (List TV):=match o with | some b => if off + n ≤ b.cs.length then some (((b.cs.drop off).take n).map TV.rd) else none | none => none
theorem zb49 (off:Nat):zbbh τ id off = zbhk (τ.at id) off:=by unfold zbbh zbhk; cases τ.at id <;> rfl
theorem zaay (off:Nat):gq τ id off n = zbp7 (τ.at id) off n:=by unfold gq zbp7; cases τ.at id <;> rfl
theorem zbve (t:TypeId) (cs:List TV) (off:Nat):zbhk (some ⟨t,cs⟩) off = (cs[off]?).map TV.rd:=rfl
theorem zbs6 (t:TypeId) (cs:List TV) (off:Nat):zbp7 (some ⟨t,cs⟩) off n = if off + n ≤ cs.length then some (((cs.drop off).take n).map TV.rd) else none:=rfl
theorem zbri:(τ.push b).at τ.next = some b:=zbi9
theorem zbun (h:id = τ.next):(τ.push b).at id = some b:=by subst h; exact zbi9
theorem zbrj (h:id < τ.next):(τ.push b).at id = τ.at id:=ue h
theorem ag:(τ.push b).next = τ.next + 1:=va
theorem aa:(τ.put id b).next = τ.next:=ik
theorem za8b:(τ.locked n).next = τ.next:=rfl
theorem zbhp:(τ.locked n).at id = τ.at id:=rfl
theorem ar:(τ.push b).lock = τ.lock:=rfl
theorem af:(τ.put id b).lock = τ.lock:=rfl
theorem za8s:(τ.cut n).lock = τ.lock:=rfl
theorem za8r:(τ.locked n).lock = n:=rfl
theorem zbk3 (h:id < τ.next):(τ.put id b).at id = some b:=pv h
theorem zb1d (h:(k = id) = False):(τ.put id b).at k = τ.at k:=uf (by simpa using h)
theorem zbbl:(τ.put id b).put id c = τ.put id c:=by simp [TH.put]
theorem zbtb (h:id = τ.next):(τ.push b).put id c = τ.push c:=by subst h; simp [TH.put,TH.push,TH.next,List.set_append_right]
theorem zbtc (h:id < τ.next):(τ.push b).put id c = (τ.put id c).push b:=by simp only [TH.put,TH.push,TH.next] at *; rw [List.set_append_left _ _ h]
theorem zb2a (h:n ≤ τ.next):(τ.push b).cut n = τ.cut n:=by simp only [TH.cut,TH.push,TH.next] at *; rw [List.take_append_of_le_length h]
theorem f0 (h:τ.next ≤ n):τ.cut n = τ:=zbpl h
theorem zbuv:(τ.locked k).cut n = (τ.cut n).locked k:=rfl
theorem zbxy:(τ.locked k).push b = (τ.push b).locked k:=rfl
theorem zbwd:(τ.locked k).put id b = (τ.put id b).locked k:=rfl
theorem zbyx:(τ.locked k).locked n = τ.locked n:=rfl
theorem zbxc:τ.locked τ.lock = τ:=rfl
end
section
variable (k:IntKind) (x y:Int) (s u:ByteArray)
theorem zbdr:yd .add (.int k x) (.int k y) = some (.int k (k.wrap (x + y))):=by simp [yd,a6,df,ofS]
theorem zbdd:yd .sub (.int k x) (.int k y) = some (.int k (k.wrap (x - y))):=by simp [yd,a6,df,ofS]
theorem zbdj:yd .mul (.int k x) (.int k y) = some (.int k (k.wrap (x * y))):=by simp [yd,a6,df,ofS]
theorem zbdq:yd .and (.int k x) (.int k y) = some (.int k (k.wrap (BitVec.ofInt k.bits x &&& BitVec.ofInt k.bits y).toNat)):=by simp [yd,a6,df,ofS]
theorem zbjs:yd .or (.int k x) (.int k y) = some (.int k (k.wrap (BitVec.ofInt k.bits x ||| BitVec.ofInt k.bits y).toNat)):=by simp [yd,a6,df,ofS]
theorem zbdc:yd .xor (.int k x) (.int k y) = some (.int k (k.wrap (BitVec.ofInt k.bits x ^^^ BitVec.ofInt k.bits y).toNat)):=by simp [yd,a6,df,ofS]
theorem zbdk:yd .lss (.int k x) (.int k y) = some (.bool (decide (x < y))):=by simp [yd,a6,df,ofS]
theorem zbdl:yd .leq (.int k x) (.int k y) = some (.bool (decide (x ≤ y))):=by simp [yd,a6,df,ofS]
theorem zbdm:yd .gtr (.int k x) (.int k y) = some (.bool (decide (y < x))):=by simp [yd,a6,df,ofS]
theorem zbdn:yd .geq (.int k x) (.int k y) = some (.bool (decide (y ≤ x))):=by simp [yd,a6,df,ofS]
theorem zbdo:yd .eql (.int k x) (.int k y) = some (.bool (decide (x = y))):=by simp [yd,a6,df,ofS]; rfl
theorem zbdi:yd .neq (.int k x) (.int k y) = some (.bool (decide (¬ x = y))):=by simp [yd,a6,df,ofS]; rfl
theorem zbdh:yd .quo (.int k x) (.int k y) = if y = 0 then none else some (.int k (k.wrap (x.tdiv y))):=by simp [yd,a6,df,ofS]; split <;> simp [ofS]
theorem zbdg:yd .rem (.int k x) (.int k y) = if y = 0 then none else some (.int k (x.tmod y)):=by simp [yd,a6,df,ofS]; split <;> simp [ofS]
theorem zbdf (j:IntKind):yd .shl (.int k x) (.int j y) = if y < 0 then none else some (.int k (k.wrap (x * 2 ^ (Nat.min y.toNat k.bits)))):=by simp [yd,a6,zbfs,ofS]; split <;> simp [ofS]
theorem zbde (j:IntKind):yd .shr (.int k x) (.int j y) = if y < 0 then none else some (.int k (x.fdiv (2 ^ (Nat.min y.toNat k.bits)))):=by simp [yd,a6,zbfs,ofS]; split <;> simp [ofS]
theorem zbdp:yd .add (.str s) (.str u) = if 9223372036854775807 < ((s.size + u.size:Nat):Int) then none else some (.str (s ++ u)):=by
 have e:IntKind.i64.max = 9223372036854775807:=by decide
 simp only [yd,zaqi,e]
 split
 · rfl
 · rfl
theorem zbxo {s u:ByteArray}:s.toList = u.toList ↔ s = u:=by
 constructor
 · intro h
   rw [ByteArray.toList_eq,ByteArray.toList_eq] at h
   cases s; cases u; simp_all
 · rintro rfl; rfl
theorem zaf8:yd .eql (.str s) (.str u) = some (.bool (decide (s = u))):=by simp only [yd,zaqi,Option.map_some,ofS]; congr 2; by_cases h:s = u <;> simp [h,zbxo]
theorem zaf7:yd .neq (.str s) (.str u) = some (.bool (decide (¬ s = u))):=by simp only [yd,zaqi,Option.map_some,ofS]; congr 2; by_cases h:s = u <;> simp [h,zbxo]
theorem zbc3 (b:Bool):tun .not (.bool b) = some (.bool !b):=rfl
def zbqb (k:IntKind) (x:Int):Int:=k.wrap (BitVec.ofInt k.bits (if k.signed then -1 else k.max) ^^^ BitVec.ofInt k.bits x).toNat
theorem zbc2:tun .xor (.int k x) = some (.int k (zbqb k x)):=rfl
theorem zbc4:tun .neg (.int k x) = some (.int k (k.wrap (0 - x))):=rfl
end
theorem zbwq (c:Prop) [Decidable c] (v:TV) (d:Option Nat) (K:ak) (fr:TF) (tk:TK) (τ:TH):pK (if c then none else some v) d K fr tk τ = (¬ c ∧ K (dh fr d v) tk τ):=by unfold pK; by_cases h:c <;> simp [h]
theorem za8j {g n k:Nat} (h:g < n):(g < n + k) = True:=by simp; omega
theorem za80 {g n k:Nat} (h:g ≤ n):(g ≤ n + k) = True:=by simp; omega
theorem za8d (n k:Nat):(n < n + k) = (0 < k):=by simp
theorem za8k (n j k:Nat):(n + j < n + k) = (j < k):=by simp
theorem za8z (n k:Nat):(n ≤ n + k) = True:=by simp
theorem za81 (n j k:Nat):(n + j ≤ n + k) = (j ≤ k):=by simp
theorem za9r (n j k:Nat):(n + j = n + k) = (j = k):=by simp
theorem zbwo (n k:Nat):(n = n + k) = (k = 0):=by simp
theorem zbx9 (n k:Nat):(n + k = n) = (k = 0):=by simp
theorem zbye (n:Nat):(n < n) = False:=by simp
theorem zbap (n j k:Nat):n + j + k = n + (j + k):=Nat.add_assoc n j k
theorem zb4s (i o j p:Nat):TV.same (.ptr i o) (.ptr j p) = (i == j && o == p):=rfl
theorem zb4r (k j:IntKind) (n m:Int):TV.same (.int k n) (.int j m) = (decide (k = j) && decide (n = m)):=rfl
theorem zbt3 (a b:Bool):TV.same (.bool a) (.bool b) = (a == b):=rfl
theorem zb4t (a b:ByteArray):TV.same (.str a) (.str b) = decide (a = b):=rfl
theorem zbt4 (f g:FuncId) (a b c d:List TV):TV.same (.func f a b) (.func g c d) = (decide (f = g) && (zbbd a c && zbbd b d)):=rfl
theorem zbt2:zbbd [] [] = true:=rfl
theorem zbvm (v w:TV) (r s:List TV):zbbd (v :: r) (w :: s) = (v.same w && zbbd r s):=rfl
theorem zbs5 (fr:TF) (τ:TH) (d:Nat) (i:I) (g:Option (Nat × Bool)):zblm ⟨some d,i,g⟩ fr τ = zbmy (zbix i fr τ) (lkp fr d):=rfl
theorem zbs2 (fr:TF) (τ:TH) (x:Operand):zbix (.load1 x) fr τ = rdO (tO fr x) τ:=rfl
theorem zayy (τ:TH) (id off:Nat):rdO (.ptr id off) τ = rdB (τ.at id) off:=rfl
theorem zb48 (t:TypeId) (cs:List TV) (off:Nat):rdB (some ⟨t,cs⟩) off = (cs[off]?).map TV.rd:=rfl
theorem zbs7 (v w:TV):zbmy (some v) w = v.same w:=rfl
theorem zb2c:decide True = true:=rfl
theorem zb2b:decide False = false:=rfl
theorem TT0:type_of% (ai (ai (ai (ai @zbfc @zbfd) (ai @zbk6 @zbk7)) (ai (ai @zb05 @zb5p) (ai @zbti @zai6))) (ai (ai (ai @zb5s @zajo) (ai @zb5q @zb5r)) (ai (ai @zbaq @zbk5) (ai @zbfe @zbas)))):=(ai (ai (ai (ai @zbfc @zbfd) (ai @zbk6 @zbk7)) (ai (ai @zb05 @zb5p) (ai @zbti @zai6))) (ai (ai (ai @zb5s @zajo) (ai @zb5q @zb5r)) (ai (ai @zbaq @zbk5) (ai @zbfe @zbas))))
theorem TT1:type_of% (ai (ai (ai (ai @zbar @za98) (ai @zacp @zaa2)) (ai (ai @zacu @zb1f) (ai @zb1e @zbqu))) (ai (ai (ai @zb1g @zbpv) (ai @za8o @za8p)) (ai (ai @zbad @zbd2) (ai @zbd3 @zaq8)))):=(ai (ai (ai (ai @zbar @za98) (ai @zacp @zaa2)) (ai (ai @zacu @zb1f) (ai @zb1e @zbqu))) (ai (ai (ai @zb1g @zbpv) (ai @za8o @za8p)) (ai (ai @zbad @zbd2) (ai @zbd3 @zaq8))))
theorem TT2:type_of% (ai (ai (ai (ai @zaq9 @zb3d) (ai @zb4p @zbc6)) (ai (ai @zbc7 @zbc5) (ai @zbyg @zbzr))) (ai (ai (ai @zbuu @zbxq) (ai @zbvt @zbvu)) (ai (ai @zaz7 @zaz6) (ai @zbdv @zama)))):=(ai (ai (ai (ai @zaq9 @zb3d) (ai @zb4p @zbc6)) (ai (ai @zbc7 @zbc5) (ai @zbyg @zbzr))) (ai (ai (ai @zbuu @zbxq) (ai @zbvt @zbvu)) (ai (ai @zaz7 @zaz6) (ai @zbdv @zama))))
theorem TT3:type_of% (ai (ai (ai (ai @zal9 @zamr) (ai @zb5l @zb5m)) (ai (ai @zbko @zbkr) (ai @zbkp @zbkq))) (ai (ai (ai @zbe4 @zbfq) (ai @zba9 @zb5c)) (ai (ai @zbtl @zbub) (ai @zae0 @zb5h)))):=(ai (ai (ai (ai @zal9 @zamr) (ai @zb5l @zb5m)) (ai (ai @zbko @zbkr) (ai @zbkp @zbkq))) (ai (ai (ai @zbe4 @zbfq) (ai @zba9 @zb5c)) (ai (ai @zbtl @zbub) (ai @zae0 @zb5h))))
theorem TT4:type_of% (ai (ai (ai (ai @zbtm @zaee) (ai @zb5d @zad8)) (ai (ai @zb5g @zbc9) (ai @zae1 @zaed))) (ai (ai (ai @zb5e @zaeb) (ai @zb5f @zaec)) (ai (ai @zba8 @zba7) (ai @zb1q @za9t)))):=(ai (ai (ai (ai @zbtm @zaee) (ai @zb5d @zad8)) (ai (ai @zb5g @zbc9) (ai @zae1 @zaed))) (ai (ai (ai @zb5e @zaeb) (ai @zb5f @zaec)) (ai (ai @zba8 @zba7) (ai @zb1q @za9t))))
theorem TT5:type_of% (ai (ai (ai (ai @za3w @zbei) (ai @zb3m @zbpy)) (ai (ai @zbla @zbfl) (ai @zbfm @zb29))) (ai (ai (ai @zbfk @za2l) (ai @zba4 @za83)) (ai (ai @zb2r @zba2) (ai @za82 @zb2s)))):=(ai (ai (ai (ai @za3w @zbei) (ai @zb3m @zbpy)) (ai (ai @zbla @zbfl) (ai @zbfm @zb29))) (ai (ai (ai @zbfk @za2l) (ai @zba4 @za83)) (ai (ai @zb2r @zba2) (ai @za82 @zb2s))))
theorem TT6:type_of% (ai (ai (ai (ai @zb1u @zb28) (ai @zbsg @zbsf)) (ai (ai @zblg @zble) (ai @zbe7 @zba5))) (ai (ai (ai @zbxm @zbvq) (ai @zbxn @zbvs)) (ai (ai @zbtn @zbvr) (ai @zbxl @zbxk)))):=(ai (ai (ai (ai @zb1u @zb28) (ai @zbsg @zbsf)) (ai (ai @zblg @zble) (ai @zbe7 @zba5))) (ai (ai (ai @zbxm @zbvq) (ai @zbxn @zbvs)) (ai (ai @zbtn @zbvr) (ai @zbxl @zbxk))))
theorem TT7:type_of% (ai (ai (ai (ai @zbxj @zb68) (ai @zbfp @za9w)) (ai (ai @zba6 @zb19) (ai @zbwg @za8x))) (ai (ai (ai @zb2w @zb4h) (ai @zbs3 @zau2)) (ai (ai @zbs4 @zb4i) (ai @zau3 @zat2)))):=(ai (ai (ai (ai @zbxj @zb68) (ai @zbfp @za9w)) (ai (ai @zba6 @zb19) (ai @zbwg @za8x))) (ai (ai (ai @zb2w @zb4h) (ai @zbs3 @zau2)) (ai (ai @zbs4 @zb4i) (ai @zau3 @zat2))))
theorem TT8:type_of% (ai (ai (ai (ai @zb4n @zb4o) (ai @zauk @zbd5)) (ai (ai @zau1 @zau0) (ai @zauo @zaup))) (ai (ai (ai @zb4m @zb4k) (ai @zb4j @zb4l)) (ai (ai @zau4 @zara) (ai @za9q @zb2f)))):=(ai (ai (ai (ai @zb4n @zb4o) (ai @zauk @zbd5)) (ai (ai @zau1 @zau0) (ai @zauo @zaup))) (ai (ai (ai @zb4m @zb4k) (ai @zb4j @zb4l)) (ai (ai @zau4 @zara) (ai @za9q @zb2f))))
theorem TT9:type_of% (ai (ai (ai (ai @zb1r @za9p) (ai @zb1s @za9o)) (ai (ai @zbug @za89) (ai @zb3j @zb52))) (ai (ai (ai @zbe1 @za88) (ai @za87 @zbuh)) (ai (ai @zbkl @zbui) (ai @zbj3 @zbrf)))):=(ai (ai (ai (ai @zb1r @za9p) (ai @zb1s @za9o)) (ai (ai @zbug @za89) (ai @zb3j @zb52))) (ai (ai (ai @zbe1 @za88) (ai @za87 @zbuh)) (ai (ai @zbkl @zbui) (ai @zbj3 @zbrf))))
theorem zb66:type_of% (ai (ai (ai (ai @zbdz @zaqd) (ai @zaqc @zbjt)) (ai (ai @zbjv @zbju) (ai @zbjw @za8c))) (ai (ai (ai @zbfn @zbe0) (ai @zbfo @zb2u)) (ai (ai @za8y @zb2t) (ai @zb2v @zblb)))):=(ai (ai (ai (ai @zbdz @zaqd) (ai @zaqc @zbjt)) (ai (ai @zbjv @zbju) (ai @zbjw @za8c))) (ai (ai (ai @zbfn @zbe0) (ai @zbfo @zb2u)) (ai (ai @za8y @zb2t) (ai @zb2v @zblb))))
theorem zb65:type_of% (ai (ai (ai (ai @zben @zblc) (ai @zbeo @zb1t)) (ai (ai @zb51 @zbku) (ai @zbba @zbtk))) (ai (ai (ai @zbvp @zbue) (ai @zbxr @zba0)) (ai (ai @zb5u @zbud) (ai @zb4w @zb4v)))):=(ai (ai (ai (ai @zben @zblc) (ai @zbeo @zb1t)) (ai (ai @zb51 @zbku) (ai @zbba @zbtk))) (ai (ai (ai @zbvp @zbue) (ai @zbxr @zba0)) (ai (ai @zb5u @zbud) (ai @zb4w @zb4v))))
theorem zb64:type_of% (ai (ai (ai (ai @zbuf @zbkm) (ai @zbwh @zbe2)) (ai (ai @zbld @zbkv) (ai @zblf @zba1))) (ai (ai (ai @zapx @zb4u) (ai @zba3 @zaa1)) (ai (ai @zb5i @zb5w) (ai @zb5v @zb04)))):=(ai (ai (ai (ai @zbuf @zbkm) (ai @zbwh @zbe2)) (ai (ai @zbld @zbkv) (ai @zblf @zba1))) (ai (ai (ai @zapx @zb4u) (ai @zba3 @zaa1)) (ai (ai @zb5i @zb5w) (ai @zb5v @zb04))))
theorem zb63:type_of% (ai (ai (ai (ai @zaq0 @zb4q) (ai @zb50 @zbk2)) (ai (ai @zbk1 @zbk0) (ai @zbvo @zbxh))) (ai (ai (ai @zb53 @zb54) (ai @zb55 @zbke)) (ai (ai @zbkd @zb1p) (ai @zb5x @zbal)))):=(ai (ai (ai (ai @zaq0 @zb4q) (ai @zb50 @zbk2)) (ai (ai @zbk1 @zbk0) (ai @zbvo @zbxh))) (ai (ai (ai @zb53 @zb54) (ai @zb55 @zbke)) (ai (ai @zbkd @zb1p) (ai @zb5x @zbal))))
theorem zb62:type_of% (ai (ai (ai (ai @zbam @zb06) (ai @zb5y @zbae)) (ai (ai @zb1c @zbai) (ai @zbak @zb08))) (ai (ai (ai @zbaj @zb07) (ai @zb5z @zbk4)) (ai (ai @zbuj @zbuk) (ai @zbul @zbjy)))):=(ai (ai (ai (ai @zbam @zb06) (ai @zb5y @zbae)) (ai (ai @zb1c @zbai) (ai @zbak @zb08))) (ai (ai (ai @zbaj @zb07) (ai @zb5z @zbk4)) (ai (ai @zbuj @zbuk) (ai @zbul @zbjy))))
theorem zb61:type_of% (ai (ai (ai (ai @zbjx @zbk8) (ai @zbfh @zbaz)) (ai (ai @zbfg @zbav) (ai @zbau @zbaw))) (ai (ai (ai @zbay @zbax) (ai @zbff @zbfi)) (ai (ai @za77 @zb3b) (ai @za76 @zb38)))):=(ai (ai (ai (ai @zbjx @zbk8) (ai @zbfh @zbaz)) (ai (ai @zbfg @zbav) (ai @zbau @zbaw))) (ai (ai (ai @zbay @zbax) (ai @zbff @zbfi)) (ai (ai @za77 @zb3b) (ai @za76 @zb38))))
theorem zb60:type_of% (ai (ai (ai (ai @zb39 @zb37) (ai @zb3c @zb36)) (ai (ai @za8u @zb20) (ai @zbtp @zbto))) (ai (ai (ai @zbd1 @zb1b) (ai @zbrh @zbwl)) (ai (ai @zbvf @zbrt) (ai @zbr0 @zbvk)))):=(ai (ai (ai (ai @zb39 @zb37) (ai @zb3c @zb36)) (ai (ai @za8u @zb20) (ai @zbtp @zbto))) (ai (ai (ai @zbd1 @zb1b) (ai @zbrh @zbwl)) (ai (ai @zbvf @zbrt) (ai @zbr0 @zbvk))))
theorem zb6z:type_of% (ai (ai (ai (ai @zbru @zbvl) (ai @zbrz @zb18)) (ai (ai @zbrv @zbrw) (ai @zbry @zbrx))) (ai (ai (ai @zbvj @zbvh) (ai @zbvg @zbvi)) (ai (ai @zbrs @zbrk) (ai @zbsh @zb4a)))):=(ai (ai (ai (ai @zbru @zbvl) (ai @zbrz @zb18)) (ai (ai @zbrv @zbrw) (ai @zbry @zbrx))) (ai (ai (ai @zbvj @zbvh) (ai @zbvg @zbvi)) (ai (ai @zbrs @zbrk) (ai @zbsh @zb4a))))
theorem zb6y:type_of% (ai (ai (ai (ai @za6d @za4v) (ai @zb4f @za53)) (ai (ai @zb3l @za4w) (ai @zbej @za5f))) (ai (ai (ai @za5e @za4x) (ai @za5d @zb4e)) (ai (ai @zb4c @zb4b) (ai @zb4d @za6m)))):=(ai (ai (ai (ai @za6d @za4v) (ai @zb4f @za53)) (ai (ai @zb3l @za4w) (ai @zbej @za5f))) (ai (ai (ai @za5e @za4x) (ai @za5d @zb4e)) (ai (ai @zb4c @zb4b) (ai @zb4d @za6m))))
theorem zb6x:type_of% (ai (ai (ai (ai @za4j @zbwr) (ai @zbu0 @zbr2)) (ai (ai @zbr9 @zbu5) (ai @zbr3 @zbu6))) (ai (ai (ai @zbr8 @zb2q) (ai @zbr4 @zbr5)) (ai (ai @zbr7 @zbr6) (ai @zbu4 @zbu2)))):=(ai (ai (ai (ai @za4j @zbwr) (ai @zbu0 @zbr2)) (ai (ai @zbr9 @zbu5) (ai @zbr3 @zbu6))) (ai (ai (ai @zbr8 @zb2q) (ai @zbr4 @zbr5)) (ai (ai @zbr7 @zbr6) (ai @zbu4 @zbu2))))
theorem zb6w:type_of% (ai (ai (ai (ai @zbu1 @zbu3) (ai @zbr1 @zbsa)) (ai (ai @zbuq @zbq2) (ai @zb2k @zb1w))) (ai (ai (ai @zbq7 @zb2l) (ai @zbq8 @zb1v)) (ai (ai @za9y @zb2m) (ai @zb2n @zb2p)))):=(ai (ai (ai (ai @zbu1 @zbu3) (ai @zbr1 @zbsa)) (ai (ai @zbuq @zbq2) (ai @zb2k @zb1w))) (ai (ai (ai @zbq7 @zb2l) (ai @zbq8 @zb1v)) (ai (ai @za9y @zb2m) (ai @zb2n @zb2p))))
theorem zb6v:type_of% (ai (ai (ai (ai @zb2o @zbq6) (ai @zbq4 @zbq3)) (ai (ai @zbq5 @zb2j) (ai @zb1x @zbup))) (ai (ai (ai @zbqv @zb1j) (ai @zb2h @zbq0)) (ai (ai @zb1k @zbq1) (ai @zb2g @za9z)))):=(ai (ai (ai (ai @zb2o @zbq6) (ai @zbq4 @zbq3)) (ai (ai @zbq5 @zb2j) (ai @zb1x @zbup))) (ai (ai (ai @zbqv @zb1j) (ai @zb2h @zbq0)) (ai (ai @zb1k @zbq1) (ai @zb2g @za9z))))
theorem zb6u:type_of% (ai (ai (ai (ai @zb1l @zb1m) (ai @zb1o @zb1n)) (ai (ai @zbqz @zbqx) (ai @zbqw @zbqy))) (ai (ai (ai @zb1i @zb2i) (ai @zbur @zbq9)) (ai (ai @zb1z @zb16) (ai @zbre @zb10)))):=(ai (ai (ai (ai @zb1l @zb1m) (ai @zb1o @zb1n)) (ai (ai @zbqz @zbqx) (ai @zbqw @zbqy))) (ai (ai (ai @zb1i @zb2i) (ai @zbur @zbq9)) (ai (ai @zb1z @zb16) (ai @zbre @zb10))))
theorem zb6t:type_of% (ai (ai (ai (ai @zbrr @zb15) (ai @za9x @zb11)) (ai (ai @zb12 @zb14) (ai @zb13 @zbrd))) (ai (ai (ai @zbrb @zbra) (ai @zbrc @zb1y)) (ai (ai @zb17 @zbvd) (ai @zbsi @zb3o)))):=(ai (ai (ai (ai @zbrr @zb15) (ai @za9x @zb11)) (ai (ai @zb12 @zb14) (ai @zb13 @zbrd))) (ai (ai (ai @zbrb @zbra) (ai @zbrc @zb1y)) (ai (ai @zb17 @zbvd) (ai @zbsi @zb3o))))
theorem zb6s:type_of% (ai (ai (ai (ai @zb3v @zbso) (ai @zb3p @zbs8)) (ai (ai @zb3u @za20) (ai @zb3q @zb3r))) (ai (ai (ai @zb3t @zb3s) (ai @zbsn @zbsl)) (ai (ai @zbsk @zbsm) (ai @zb3n @zb3w)))):=(ai (ai (ai (ai @zb3v @zbso) (ai @zb3p @zbs8)) (ai (ai @zb3u @za20) (ai @zb3q @zb3r))) (ai (ai (ai @zb3t @zb3s) (ai @zbsn @zbsl)) (ai (ai @zbsk @zbsm) (ai @zb3n @zb3w))))
theorem zb6r:type_of% (ai (ai (ai (ai @zbs1 @zb41) (ai @za1o @za0j)) (ai (ai @zb46 @za1n) (ai @zb47 @za0l))) (ai (ai (ai @zbeg @za03) (ai @za02 @za0m)) (ai (ai @za0x @zb45) (ai @zb43 @zb42)))):=(ai (ai (ai (ai @zbs1 @zb41) (ai @za1o @za0j)) (ai (ai @zb46 @za1n) (ai @zb47 @za0l))) (ai (ai (ai @zbeg @za03) (ai @za02 @za0m)) (ai (ai @za0x @zb45) (ai @zb43 @zb42))))
theorem zb6q:type_of% (ai (ai (ai (ai @zb44 @za1p) (ai @zaz8 @zb4g)) (ai (ai @zayx @zbee) (ai @zbd7 @zavb))) (ai (ai (ai @zbed @zau5) (ai @zbd8 @zbj6)) (ai (ai @zbec @zbeb) (ai @zbd9 @zbea)))):=(ai (ai (ai (ai @zb44 @za1p) (ai @zaz8 @zb4g)) (ai (ai @zayx @zbee) (ai @zbd7 @zavb))) (ai (ai (ai @zbed @zau5) (ai @zbd8 @zbj6)) (ai (ai @zbec @zbeb) (ai @zbd9 @zbea))))
theorem zb6p:type_of% (ai (ai (ai (ai @zaw6 @zayf) (ai @zayw @zax0)) (ai (ai @zbef @zbd6) (ai @zb2y @za8v))) (ai (ai (ai @zb2x @zbxx) (ai @zbv6 @zbte)) (ai (ai @zbst @zbwa) (ai @zbtf @zbwb)))):=(ai (ai (ai (ai @zaw6 @zayf) (ai @zayw @zax0)) (ai (ai @zbef @zbd6) (ai @zb2y @za8v))) (ai (ai (ai @zb2x @zbxx) (ai @zbv6 @zbte)) (ai (ai @zbst @zbwa) (ai @zbtf @zbwb))))
theorem zb6o:type_of% (ai (ai (ai (ai @zbss @zb3x) (ai @zbtg @zbsp)) (ai (ai @zbsr @zbsq) (ai @zbv9 @zbv7))) (ai (ai (ai @zbv8 @zbtd) (ai @zbsu @zbxw)) (ai (ai @zbwc @zbsv) (ai @zb3z @zb4z)))):=(ai (ai (ai (ai @zbss @zb3x) (ai @zbtg @zbsp)) (ai (ai @zbsr @zbsq) (ai @zbv9 @zbv7))) (ai (ai (ai @zbv8 @zbtd) (ai @zbsu @zbxw)) (ai (ai @zbwc @zbsv) (ai @zb3z @zb4z))))
theorem zb6n:type_of% (ai (ai (ai (ai @zbsz @zb30) (ai @zbs0 @zb35)) (ai (ai @za2i @zb31) (ai @zb32 @zb34))) (ai (ai (ai @zb33 @zbsy) (ai @zbsw @zbsx)) (ai (ai @zb3y @zb40) (ai @zbx2 @zb23)))):=(ai (ai (ai (ai @zbsz @zb30) (ai @zbs0 @zb35)) (ai (ai @za2i @zb31) (ai @zb32 @zb34))) (ai (ai (ai @zb33 @zbsy) (ai @zbsw @zbsx)) (ai (ai @zb3y @zb40) (ai @zbx2 @zb23))))
theorem zb6m:type_of% (ai (ai (ai (ai @zbvx @za8m) (ai @zbtt @zbey)) (ai (ai @zbt0 @zber) (ai @zbv2 @za8f))) (ai (ai (ai @zbtu @zbex) (ai @zbv3 @za8e)) (ai (ai @zbtz @zbes) (ai @zb5j @zbkg)))):=(ai (ai (ai (ai @zbvx @za8m) (ai @zbtt @zbey)) (ai (ai @zbt0 @zber) (ai @zbv2 @za8f))) (ai (ai (ai @zbtu @zbex) (ai @zbv3 @za8e)) (ai (ai @zbtz @zbes) (ai @zb5j @zbkg))))
theorem zb6l:type_of% (ai (ai (ai (ai @zbtv @zbew) (ai @zbtw @zbev)) (ai (ai @zbty @zbet) (ai @zbtx @zbeu))) (ai (ai (ai @zbv1 @za8g) (ai @zbvz @za8i)) (ai (ai @zbvy @za8l) (ai @zbv0 @za8h)))):=(ai (ai (ai (ai @zbtv @zbew) (ai @zbtw @zbev)) (ai (ai @zbty @zbet) (ai @zbtx @zbeu))) (ai (ai (ai @zbv1 @za8g) (ai @zbvz @za8i)) (ai (ai @zbvy @za8l) (ai @zbv0 @za8h))))
theorem zb6k:type_of% (ai (ai (ai (ai @zbts @zbez) (ai @zbt1 @zbeq)) (ai (ai @zbvw @zbx1) (ai @za8n @zb22))) (ai (ai (ai @zb49 @zaay) (ai @zbve @zbs6)) (ai (ai @zbri @zbun) (ai @zbrj @ag)))):=(ai (ai (ai (ai @zbts @zbez) (ai @zbt1 @zbeq)) (ai (ai @zbvw @zbx1) (ai @za8n @zb22))) (ai (ai (ai @zb49 @zaay) (ai @zbve @zbs6)) (ai (ai @zbri @zbun) (ai @zbrj @ag))))
theorem zb6j:type_of% (ai (ai (ai (ai @aa @za8b) (ai @zbhp @ar)) (ai (ai @af @za8s) (ai @za8r @zbk3))) (ai (ai (ai @zb1d @zbbl) (ai @zbtb @zbtc)) (ai (ai @zb2a @f0) (ai @zbuv @zbxy)))):=(ai (ai (ai (ai @aa @za8b) (ai @zbhp @ar)) (ai (ai @af @za8s) (ai @za8r @zbk3))) (ai (ai (ai @zb1d @zbbl) (ai @zbtb @zbtc)) (ai (ai @zb2a @f0) (ai @zbuv @zbxy))))
theorem zb6i:type_of% (ai (ai (ai (ai @zbwd @zbyx) (ai @zbxc @zbdr)) (ai (ai @zbdd @zbdj) (ai @zbdq @zbjs))) (ai (ai (ai @zbdc @zbdk) (ai @zbdl @zbdm)) (ai (ai @zbdn @zbdo) (ai @zbdi @zbdh)))):=(ai (ai (ai (ai @zbwd @zbyx) (ai @zbxc @zbdr)) (ai (ai @zbdd @zbdj) (ai @zbdq @zbjs))) (ai (ai (ai @zbdc @zbdk) (ai @zbdl @zbdm)) (ai (ai @zbdn @zbdo) (ai @zbdi @zbdh))))
theorem zb6h:type_of% (ai (ai (ai (ai @zbdg @zbdf) (ai @zbde @zbdp)) (ai (ai @zaf8 @zaf7) (ai @zbc3 @zbc2))) (ai (ai (ai @zbc4 @zbwq) (ai @za8j @za80)) (ai (ai @za8d @za8k) (ai @za8z @za81)))):=(ai (ai (ai (ai @zbdg @zbdf) (ai @zbde @zbdp)) (ai (ai @zaf8 @zaf7) (ai @zbc3 @zbc2))) (ai (ai (ai @zbc4 @zbwq) (ai @za8j @za80)) (ai (ai @za8d @za8k) (ai @za8z @za81))))
theorem zb6g:type_of% (ai (ai (ai (ai @za9r @zbwo) (ai @zbx9 @zbye)) (ai (ai @zbap @zb4s) (ai @zb4r @zbt3))) (ai (ai (ai @zb4t @zbt4) (ai @zbt2 @zbvm)) (ai (ai @zbs5 @zbs2) (ai @zayy @zb48)))):=(ai (ai (ai (ai @za9r @zbwo) (ai @zbx9 @zbye)) (ai (ai @zbap @zb4s) (ai @zb4r @zbt3))) (ai (ai (ai @zb4t @zbt4) (ai @zbt2 @zbvm)) (ai (ai @zbs5 @zbs2) (ai @zayy @zb48))))
theorem zb6f:type_of% (ai (ai (ai (ai @zbs7 @zb2c) (ai @zb2b @List.map_cons.{0,0})) (ai (ai @List.map_nil.{0,0} @List.getD_cons_zero.{0}) (ai @List.getD_cons_succ.{0} @List.getElem?_cons_zero.{0}))) (ai (ai (ai @List.getElem?_cons_succ.{0} @List.length_cons.{0}) (ai @List.length_nil.{0} @List.drop_succ_cons.{0})) (ai (ai @List.drop_zero.{0} @List.take_succ_cons.{0}) (ai @List.take_zero.{0} @List.take_nil.{0})))):=(ai (ai (ai (ai @zbs7 @zb2c) (ai @zb2b @List.map_cons.{0,0})) (ai (ai @List.map_nil.{0,0} @List.getD_cons_zero.{0}) (ai @List.getD_cons_succ.{0} @List.getElem?_cons_zero.{0}))) (ai (ai (ai @List.getElem?_cons_succ.{0} @List.length_cons.{0}) (ai @List.length_nil.{0} @List.drop_succ_cons.{0})) (ai (ai @List.drop_zero.{0} @List.take_succ_cons.{0}) (ai @List.take_zero.{0} @List.take_nil.{0}))))
theorem zb6e:type_of% (ai (ai (ai (ai @List.take_length.{0} @List.set_cons_zero.{0}) (ai @List.set_cons_succ.{0} @Option.map_some.{0,0})) (ai (ai @Option.map_none.{0,0} @Option.bind_some.{0,0}) (ai @and_true @true_and))) (ai (ai (ai @Bool.not_true @Bool.not_false) (ai @List.all_cons.{0} @List.all_nil.{0})) (ai (ai @Bool.and_true @Bool.true_and) (ai @Bool.and_self @not_false_eq_true)))):=(ai (ai (ai (ai @List.take_length.{0} @List.set_cons_zero.{0}) (ai @List.set_cons_succ.{0} @Option.map_some.{0,0})) (ai (ai @Option.map_none.{0,0} @Option.bind_some.{0,0}) (ai @and_true @true_and))) (ai (ai (ai @Bool.not_true @Bool.not_false) (ai @List.all_cons.{0} @List.all_nil.{0})) (ai (ai @Bool.and_true @Bool.true_and) (ai @Bool.and_self @not_false_eq_true))))
theorem zb6d:type_of% (ai (ai (ai (ai @Nat.zero_add @Nat.le_refl) (ai @Nat.add_zero @Nat.zero_mul)) (ai (ai @Nat.mul_one @Nat.one_mul) (ai @Int.toNat_zero @Int.toNat_natCast))) (ai (ai (ai @List.nil_append.{0} @List.cons_append.{0}) (ai @List.append_nil.{0} @cond_true.{1})) (ai (ai @cond_false.{1} @if_true.{1}) (ai @if_false.{1} @List.length_map.{0,0})))):=(ai (ai (ai (ai @Nat.zero_add @Nat.le_refl) (ai @Nat.add_zero @Nat.zero_mul)) (ai (ai @Nat.mul_one @Nat.one_mul) (ai @Int.toNat_zero @Int.toNat_natCast))) (ai (ai (ai @List.nil_append.{0} @List.cons_append.{0}) (ai @List.append_nil.{0} @cond_true.{1})) (ai (ai @cond_false.{1} @if_true.{1}) (ai @if_false.{1} @List.length_map.{0,0}))))
theorem zb6c:type_of% (ai (ai (ai @List.length_append.{0} @not_true_eq_false) (ai @decide_eq_true_eq (ai @or_true @true_or))) (ai (ai @or_false (ai @false_or @ne_eq.{1})) (ai @eq_self.{1} (ai @bne_self_eq_false.{0} @beq_self_eq_true.{0})))):=(ai (ai (ai @List.length_append.{0} @not_true_eq_false) (ai @decide_eq_true_eq (ai @or_true @true_or))) (ai (ai @or_false (ai @false_or @ne_eq.{1})) (ai @eq_self.{1} (ai @bne_self_eq_false.{0} @beq_self_eq_true.{0}))))
theorem TT:type_of% (ai (ai (ai (ai (ai @TT0 @TT1) (ai @TT2 (ai @TT3 @TT4))) (ai (ai @TT5 @TT6) (ai @TT7 (ai @TT8 @TT9)))) (ai (ai (ai @zb66 @zb65) (ai @zb64 (ai @zb63 @zb62))) (ai (ai @zb61 @zb60) (ai @zb6z (ai @zb6y @zb6x))))) (ai (ai (ai (ai @zb6w @zb6v) (ai @zb6u (ai @zb6t @zb6s))) (ai (ai @zb6r @zb6q) (ai @zb6p (ai @zb6o @zb6n)))) (ai (ai (ai @zb6m @zb6l) (ai @zb6k (ai @zb6j @zb6i))) (ai (ai @zb6h (ai @zb6g @zb6f)) (ai @zb6e (ai @zb6d @zb6c)))))):=(ai (ai (ai (ai (ai @TT0 @TT1) (ai @TT2 (ai @TT3 @TT4))) (ai (ai @TT5 @TT6) (ai @TT7 (ai @TT8 @TT9)))) (ai (ai (ai @zb66 @zb65) (ai @zb64 (ai @zb63 @zb62))) (ai (ai @zb61 @zb60) (ai @zb6z (ai @zb6y @zb6x))))) (ai (ai (ai (ai @zb6w @zb6v) (ai @zb6u (ai @zb6t @zb6s))) (ai (ai @zb6r @zb6q) (ai @zb6p (ai @zb6o @zb6n)))) (ai (ai (ai @zb6m @zb6l) (ai @zb6k (ai @zb6j @zb6i))) (ai (ai @zb6h (ai @zb6g @zb6f)) (ai @zb6e (ai @zb6d @zb6c))))))
end Go.Proofs.Ytgkkienmocpnbaa.Sh
