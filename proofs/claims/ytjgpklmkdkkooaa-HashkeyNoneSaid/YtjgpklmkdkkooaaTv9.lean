import Derived.Test.YtjgpklmkdkkooaaTv8
set_option linter.unusedVariables false
set_option linter.unusedSimpArgs false
/- The tree level: evaluation, step by step: printed by a program of ours. -/
namespace Go.Proofs.Ytjgpklmkdkkooaa.Sh
open Go Go.RowKit
def pK (o:Option TV) (d:Option Nat) (K:ap) (fr:TF) (tk:TK) (τ:TH):Prop:=match o with | some v => K (fp fr d v) tk τ | none => False
def zb2r (lv:List Nat) (tk:TK) (τ:TH) (fr':TF) (tk':TK) (τ':TH) (K:ap):Prop:=if ltL τ.next tk.length (lv.map fun t => lkp fr' t) = true then K (sel lv fr') (tk'.take tk.length) (τ'.cut τ.next) else K (sel lv fr') tk' τ'
def fzK (o:Option TV) (τ:TH) (K:TV → TH → Prop) (τ':TH):Prop:=match o with | some u => K u (τ'.cut τ.next) | none => False
def rtK (o:Option TV) (τ:TH) (K:TV → TH → Prop) (τ':TH):Prop:=match o with | some v => (if v.canT.under τ.next then K v.canT (τ'.cut τ.next) else v.canT.under τ'.next = true ∧ K v.canT τ') | none => False
def pl (l:List am):List (am × List Nat):=l.map fun x => (x,[])
def tLD (Γ:FuncId → Option TG):List am → ap → ap
 | [],K => K
 | ⟨⟨d,i,none⟩,m⟩ :: r,K => fun fr tk τ => tG Γ true i m d (tLD Γ r K) fr tk τ
 | ⟨⟨d,i,some (t,b)⟩,m⟩ :: r,K => fun fr tk τ => gdK Γ true (lkp fr t) b i m d (tLD Γ r K) fr tk τ
section
variable (Γ:FuncId → Option TG) (dr:Bool) (d:Option Nat) (K:ap) (fr fr':TF) (tk tk':TK) (τ τ':TH) (Q:TEx → ap) (a b:TC) (lv:List Nat) (r:List am) (m:Nat)
theorem zb5c:∀ (l:List am) (n:Nat) (told:List (Nat × Ins)) (K:ap),tD Γ n (pl l) K told = tLD Γ l K
 | [],n,told,K => rfl
 | ⟨⟨d,i,g⟩,m⟩ :: r,n,told,K => by
  funext fr tk τ
  cases g with
  | none =>
   show tG Γ true i m d (pnK _ n fr τ told [] (tD Γ (n + 1) (pl r) K)) fr tk τ = tG Γ true i m d (tLD Γ r K) fr tk τ
   have q:pnK ⟨⟨d,i,none⟩,m⟩ n fr τ told [] (tD Γ (n + 1) (pl r) K) = tLD Γ r K:=by
    funext fr' tk' τ'
    unfold pnK
    simp [zb5c r]
   rw [q]
  | some tb =>
   obtain ⟨t,b⟩:=tb
   show gdK Γ true (lkp fr t) b i m d (pnK _ n fr τ told [] (tD Γ (n + 1) (pl r) K)) fr tk τ = gdK Γ true (lkp fr t) b i m d (tLD Γ r K) fr tk τ
   have q:pnK ⟨⟨d,i,some (t,b)⟩,m⟩ n fr τ told [] (tD Γ (n + 1) (pl r) K) = tLD Γ r K:=by
    funext fr' tk' τ'
    unfold pnK
    simp [zb5c r]
   rw [q]
def tSp (Γ:FuncId → Option TG) (o:Option am) (K:ap):ap:=fun fr tk τ => match o with
 | some ⟨⟨d,i,none⟩,m⟩ => tG Γ true i m d K fr tk τ
 | some ⟨⟨d,i,some (t,b)⟩,m⟩ => gdK Γ true (lkp fr t) b i m d K fr tk τ
 | none => False
def tTp (Γ:FuncId → Option TG) (lv:List Nat) (l:List am):DTr Nat → ap → ap
 | .nil,K => K
 | .cons k r,K => tSp Γ l[k]? (tTp Γ lv l r K)
 | .alt k r j q,K => fun fr tk τ => tSp Γ l[k]? (tTp Γ lv l r fun fr1 tk1 τ1 => tSp Γ l[j]? (tTp Γ lv l q fun fr2 tk2 τ2 => (sel lv fr1 = sel lv fr2 ∧ tk1 = tk2 ∧ τ1 = τ2) ∧ K fr1 tk1 τ1) fr tk τ) fr tk τ
theorem zb49 (l:List am) (k:Nat) (told:List (Nat × Ins)) (K:ap) (K':List (Nat × Ins) → ap) (hK:∀ t,K' t = K):tS Γ (pl l) (pl l)[k]? k told K' = tSp Γ l[k]? K:=by
 have e:(pl l)[k]? = (l[k]?).map fun x => (x,[]):=by unfold pl; rw [List.getElem?_map]
 rw [e]
 generalize pl l = L
 funext fr tk τ
 cases l[k]? with
 | none => rfl
 | some x =>
  obtain ⟨⟨d,i,g⟩,m⟩:=x
  cases g with
  | none =>
   show tG Γ true i m d (pnT L _ k fr τ told [] K') fr tk τ = tG Γ true i m d K fr tk τ
   have q:pnT L ⟨⟨d,i,none⟩,m⟩ k fr τ told [] K' = K:=by
    funext fr' tk' τ'
    unfold pnT
    simp [hK]
   rw [q]
  | some tb =>
   obtain ⟨t,b⟩:=tb
   show gdK Γ true (lkp fr t) b i m d (pnT L _ k fr τ told [] K') fr tk τ = gdK Γ true (lkp fr t) b i m d K fr tk τ
   have q:pnT L ⟨⟨d,i,some (t,b)⟩,m⟩ k fr τ told [] K' = K:=by
    funext fr' tk' τ'
    unfold pnT
    simp [hK]
   rw [q]
theorem zbyf (l:List am):∀ (t:DTr Nat) (K:ap) (K':List (Nat × Ins) → ap) (hK:∀ t,K' t = K) (told:List (Nat × Ins)),tT Γ lv (pl l) t K' told = tTp Γ lv l t K
 | .nil,K,K',hK,told => hK told
 | .cons k r,K,K',hK,told => zb49 Γ l k told _ _ fun t => zbyf l r K K' hK t
 | .alt k r j q,K,K',hK,told => by
  funext fr tk τ
  show tS Γ (pl l) (pl l)[k]? k told (tT Γ lv (pl l) r _) fr tk τ = tSp Γ l[k]? (tTp Γ lv l r _) fr tk τ
  refine congrFun (congrFun (congrFun (zb49 Γ l k told _ _ fun t => zbyf l r _ _ (fun t1 => ?_) t) fr) tk) τ
  funext fr1 tk1 τ1
  refine congrFun (congrFun (congrFun (zb49 Γ l j told _ _ fun t => zbyf l q _ _ (fun t2 => ?_) t) fr) tk) τ
  funext fr2 tk2 τ2
  rw [hK]
def zb8v (Γ:FuncId → Option TG) (l:List am):List (DTr Nat × List Nat) → ap → ap
 | [],K => K
 | (t,lv) :: r,K => tTp Γ lv l t fun fr' tk' τ' => zb8v Γ l r K (sel lv fr') tk' τ'
theorem zb1g (l:List am):∀ (t:List (DTr Nat × List Nat)) (K:ap) (told:List (Nat × Ins)),tSg Γ (pl l) t K told = zb8v Γ l t K
 | [],K,told => rfl
 | (t,lv) :: r,K,told => zbyf Γ lv l t _ _ (fun t' => by funext fr' tk' τ'; rw [zb1g l r K t']) told
theorem jg (i:I):wy i 0 fr τ = (fr,τ):=rfl
theorem jf (i:I):wy i 1 fr τ = (fr,τ):=rfl
theorem je (i:I):wy i 2 fr τ = (fr,τ):=rfl
theorem jd (i:I):wy i 7 fr τ = (fr,τ):=rfl
theorem zb2y:tW Γ .skip Q fr tk τ = Q .normal fr tk τ:=zb45
theorem zb2z (id:Nat):tW Γ (.exit id) Q fr tk τ = Q (.exit id) fr tk τ:=zb47
theorem zcdc:tW Γ (.ret lv) Q fr tk τ = Q .ret (sel lv fr) tk τ:=zcbf
theorem zcdd:tW Γ (.ops r) Q fr tk τ = tL Γ r (Q .normal) fr tk τ:=zcbg
theorem ma (t:List (DTr Nat × List Nat)):tW Γ (.drawT (pl r) t) Q fr tk τ = zb8v Γ r t (Q .normal) fr tk τ:=by rw [cp,zb1g]
theorem zcqy:zb8v Γ r [] K = K:=rfl
theorem zctl (t:DTr Nat) (q:List (DTr Nat × List Nat)):zb8v Γ r ((t,lv) :: q) K fr tk τ = tTp Γ lv r t (fun fr1 tk1 τ1 => zb8v Γ r q K (sel lv fr1) tk1 τ1) fr tk τ:=rfl
theorem zbr4:tTp Γ lv r .nil K = K:=rfl
theorem zcq0 (k:Nat) (t:DTr Nat):tTp Γ lv r (.cons k t) K = tSp Γ r[k]? (tTp Γ lv r t K):=rfl
theorem zbr5 (k j:Nat) (t q:DTr Nat):tTp Γ lv r (.alt k t j q) K fr tk τ = tSp Γ r[k]? (tTp Γ lv r t fun fr1 tk1 τ1 => tSp Γ r[j]? (tTp Γ lv r q fun fr2 tk2 τ2 => (sel lv fr1 = sel lv fr2 ∧ tk1 = tk2 ∧ τ1 = τ2) ∧ K fr1 tk1 τ1) fr tk τ) fr tk τ:=rfl
theorem zcqz (i:I):tSp Γ (some ⟨⟨d,i,none⟩,m⟩) K fr tk τ = tG Γ true i m d K fr tk τ:=rfl
theorem zbwr:tW Γ (.draw (pl r)) Q fr tk τ = tLD Γ r (Q .normal) fr tk τ:=by rw [ei,zb5c]
theorem zcdb:tW Γ (.seq a b) Q fr tk τ = tW Γ a (zbrs (tW Γ b Q) Q) fr tk τ:=zcbe
theorem zb20 (c:Operand):tW Γ (.cond c a b) Q fr tk τ = cT Γ (tO fr c) a b Q fr tk τ:=zb48
theorem zbwt (id:Nat):tW Γ (.block id lv a) Q fr tk τ = tW Γ a (zbqp id lv tk τ Q) fr tk τ:=zbye
theorem zbws:tW Γ (.clean lv a) Q fr tk τ = tW Γ a Q (sel lv fr) tk τ:=zbyd
theorem zbvz (c:Bool):cT Γ (.bool c) a b Q fr tk τ = if c = true then tW Γ a Q fr tk τ else tW Γ b Q fr tk τ:=rfl
theorem zbrq (n:ap):zbrs n Q .normal = n:=rfl
theorem zbrp (n:ap):zbrs n Q .ret = Q .ret:=rfl
theorem zbrr (n:ap) (id:Nat):zbrs n Q (.exit id) = Q (.exit id):=rfl
theorem zcoc (id:Nat):zbqp id lv tk τ Q .normal fr' tk' τ' = zb2r lv tk τ fr' tk' τ' (Q .normal):=by unfold zbqp zb2r xl; simp only [true_or,if_true]; split <;> rfl
theorem zcob (id:Nat):zbqp id lv tk τ Q (.exit id) fr' tk' τ' = zb2r lv tk τ fr' tk' τ' (Q .normal):=by unfold zbqp zb2r xl; simp only [or_true,if_true]; split <;> rfl
theorem zcrx (id j:Nat) (h:(j = id) = False):zbqp id lv tk τ Q (.exit j) = Q (.exit j):=by funext fr tk τ; unfold zbqp; simp [h]
theorem zcod (id:Nat):zbqp id lv tk τ Q .ret = Q .ret:=by funext fr tk τ; unfold zbqp; simp
theorem zb5z (Q:TEx → ap):zb50 Γ lv a tk τ Q .normal fr' tk' τ' = zb2r lv tk τ fr' tk' τ' (tW Γ (.loop lv a) Q):=by simp only [zb50,zb2r,xl]; split <;> rfl
theorem zbv8:zb2r lv tk τ fr' tk' τ' K = if ltL τ.next tk.length (lv.map fun t => lkp fr' t) = true then K (sel lv fr') (tk'.take tk.length) (τ'.cut τ.next) else K (sel lv fr') tk' τ':=rfl
theorem zb1q (rs:List R) (K:TV → TH → Prop):zb5l rs false τ K .ret fr tk τ' = rtK (zbi9 rs fr τ') τ K τ':=by unfold zb5l rtK; cases zbi9 rs fr τ' <;> simp
theorem zb1r (rs:List R) (K:TV → TH → Prop):zb5l rs false τ K .normal fr tk τ' = rtK (zbi9 rs fr τ') τ K τ':=by unfold zb5l rtK; cases zbi9 rs fr τ' <;> simp
theorem zbsx (rs:List R) (K:TV → TH → Prop):zb5l rs true τ K .ret fr tk τ' = fzK ((zbi9 rs fr τ').bind (tfz τ' τ.next)) τ K τ':=by unfold zb5l fzK; cases h:zbi9 rs fr τ' with | none => simp | some v => simp only [Option.bind_some,or_true,true_and,if_true]; cases tfz τ' τ.next v <;> rfl
theorem zco8 (v:TV) (K:TV → TH → Prop):fzK (some v) τ K τ' = K v (τ'.cut τ.next):=rfl
theorem zcrb (v:TV) (K:TV → TH → Prop):rtK (some v) τ K τ' = if v.canT.under τ.next then K v.canT (τ'.cut τ.next) else v.canT.under τ'.next = true ∧ K v.canT τ':=rfl
theorem zb0w (r:R):zbi9 [r] fr τ = zbxi fr τ r:=rfl
theorem zb0x:zbi9 [] fr τ = some (.tup []):=rfl
theorem zb0v (r1 r2:R) (l:List R):zbi9 (r1 :: r2 :: l) fr τ = (zbq7 fr τ (r1 :: r2 :: l)).map .tup:=rfl
def zccx (a:Option TV) (b:Option (List TV)):Option (List TV):=match a,b with | some x,some y => some (x :: y) | _,_ => none
theorem zdal:zbq7 fr τ [] = some []:=rfl
theorem zcw5 (r:R) (l:List R):zbq7 fr τ (r :: l) = zccx (zbxi fr τ r) (zbq7 fr τ l):=rfl
theorem zcul (x:TV) (y:List TV):zccx (some x) (some y) = some (x :: y):=rfl
def ld1 (τ:TH):TV → Option TV | .ptr id off => zb3l τ id off | .rptr cs off => cs[off]? | _ => none
def ldN (n:Nat) (τ:TH):TV → Option TV | .ptr id off => if n = 0 then none else (sa τ id off n).map .agg | .rptr cs off => if off + n ≤ cs.length then some (.agg ((cs.drop off).take n)) else none | _ => none
def rdN (n:Nat) (τ:TH):TV → Option TV | .ptr id off => if n = 0 then none else (sa τ id off n).map .agg | _ => none
theorem zc8m (t:Nat):zbxi fr τ (.tmp t) = some (lkp fr t):=rfl
theorem zcut (t n:Nat):zbxi fr τ (.cellN t n) = rdN n τ (lkp fr t):=rfl
theorem zbta (n id off:Nat):rdN n τ (.ptr id off) = if n = 0 then none else (sa τ id off n).map .agg:=rfl
theorem zb1i:tL Γ [] K = K:=rfl
theorem zbsa (i:I):tL Γ (⟨⟨d,i,none⟩,m⟩ :: r) K fr tk τ = tG Γ false i m d (tL Γ r K) fr tk τ:=rfl
theorem zbr9 (i:I) (t:Nat) (b:Bool):tL Γ (⟨⟨d,i,some (t,b)⟩,m⟩ :: r) K fr tk τ = gdK Γ false (lkp fr t) b i m d (tL Γ r K) fr tk τ:=rfl
theorem zbsc:tLD Γ [] K = K:=rfl
theorem zcqu (i:I):tLD Γ (⟨⟨d,i,none⟩,m⟩ :: r) K fr tk τ = tG Γ true i m d (tLD Γ r K) fr tk τ:=rfl
theorem zcqv (i:I) (t:Nat) (b:Bool):tLD Γ (⟨⟨d,i,some (t,b)⟩,m⟩ :: r) K fr tk τ = gdK Γ true (lkp fr t) b i m d (tLD Γ r K) fr tk τ:=rfl
theorem zccn (i:I):gdK Γ dr (.bool true) true i m d K fr tk τ = tG Γ dr i m d K fr tk τ:=by simp [gdK]
theorem zccq (i:I):gdK Γ dr (.bool false) false i m d K fr tk τ = tG Γ dr i m d K fr tk τ:=by simp [gdK]
theorem zcco (i:I):gdK Γ dr (.bool true) false i m d K fr tk τ = K (fp fr d (.tup [])) tk τ:=by simp [gdK]
theorem zccp (i:I):gdK Γ dr (.bool false) true i m d K fr tk τ = K (fp fr d (.tup [])) tk τ:=by simp [gdK]
theorem zb3c (f:FuncId) (args:List Operand):tG Γ dr (.call f args) 0 d K fr tk τ = du Γ dr f (args.map fun a => (tO fr a).canT) d K fr tk τ:=rfl
theorem zcq5 (f:TV → Option TV):j6 f [] = some []:=rfl
def zcn3 (a:Option TV) (b:Option (List TV)):Option (List TV):=match a,b with | some x,some y => some (x :: y) | _,_ => none
theorem zcto (f:TV → Option TV) (v:TV) (l:List TV):j6 f (v :: l) = zcn3 (f v) (j6 f l):=rfl
theorem zcti (v:TV) (l:List TV):zcn3 (some v) (some l) = some (v :: l):=rfl
theorem zbru (n0:Nat) (cs:List TV):tfz τ n0 (.agg cs) = (j6 (mz τ n0 2) cs).map .agg:=rfl
theorem zcq6 (n0:Nat) (k:IntKind) (n:Int):mz τ n0 2 (.int k n) = some (TV.int k n):=rfl
theorem zcq7 (n0:Nat) (s:ByteArray):mz τ n0 2 (.str s) = some (TV.str s):=rfl
theorem zbrv (n0:Nat) (l:List TV):mz τ n0 2 (.sl l) = some (TV.sl l):=rfl
theorem zbrt (n0 id off n sz:Nat):tfz τ n0 (.slm id off n sz) = mz τ n0 2 (.slm id off n sz):=rfl
theorem zbw5 (f:FuncId) (args:List Operand):tG Γ dr (.callW f args) m d K fr tk τ = du Γ false f (args.map fun a => (tO fr a).canT) d K fr tk τ:=rfl
def cvK (Γ:FuncId → Option TG) (dr:Bool) (v:TV) (args:List TV) (d:Option Nat) (K:ap) (fr:TF) (tk:TK) (τ:TH):Prop:=match v with | .func f a b => du Γ dr f (a ++ args ++ b) d K fr tk τ | _ => False
theorem zbw4 (x:Operand) (args:List Operand):tG Γ dr (.callv x args) m d K fr tk τ = cvK Γ dr (tO fr x) (args.map fun a => (tO fr a).canT) d K fr tk τ:=by unfold cvK; rfl
theorem zcn5 (x:Operand) (args:List Operand):tG Γ dr (.callvW x args) m d K fr tk τ = cvK Γ false (tO fr x) (args.map fun a => (tO fr a).canT) d K fr tk τ:=by unfold cvK; rfl
theorem zbvk (f:FuncId) (p q args:List TV):cvK Γ dr (.func f p q) args d K fr tk τ = du Γ dr f (p ++ args ++ q) d K fr tk τ:=rfl
theorem zbto (v:TV):pK (some v) d K fr tk τ = K (fp fr d v) tk τ:=rfl
theorem zb11 (c:Prop) [Decidable c] (v:TV):pK (if c then some v else none) d K fr tk τ = (c ∧ K (fp fr d v) tk τ):=by unfold pK; by_cases h:c <;> simp [h]
theorem zb5v (c:Prop) [Decidable c] (x:TV × TK × TH):opK (if c then some x else none) d K fr = (c ∧ opK (some x) d K fr):=by unfold opK; by_cases h:c <;> simp [h]
theorem zcdj (x:Operand):tG Γ dr (.mov x) 0 d K fr tk τ = K (fp fr d (tO fr x)) tk τ:=rfl
def zbt5 (v:TV) (d:Option Nat) (K:ap) (fr:TF) (tk:TK) (τ:TH):Prop:=match v with | .slz => K (fp fr d (.sla tk.length [])) (tk ++ [some (0,0)]) τ | _ => False
theorem zb27 (x:Operand):tG Γ dr (.mov x) 1 d K fr tk τ = zbt5 (tO fr x) d K fr tk τ:=by unfold zbt5; simp only [tG,tOp,if_true]; cases tO fr x <;> rfl
theorem zcqk:zbt5 .slz d K fr tk τ = K (fp fr d (.sla tk.length [])) (tk ++ [some (0,0)]) τ:=rfl
def zb5t (c a b:TV):Option TV:=match c with | .bool t => some (bif t then a else b) | _ => none
theorem mi (o:Option TV):opK (o.map fun v => (v,tk,τ)) d K fr = pK o d K fr tk τ:=by cases o <;> rfl
theorem zb26 (c a b:Operand):tG Γ dr (.pick c a b) m d K fr tk τ = pK (zb5t (tO fr c) (tO fr a) (tO fr b)) d K fr tk τ:=(mi d K fr tk τ (tP (.pick c a b) fr τ)).trans (by unfold zb5t; rfl)
theorem zbtm (t:Bool) (v w:TV):zb5t (.bool t) v w = some (bif t then v else w):=rfl
theorem zbw3 (x:Operand):tG Γ dr (.load1 x) 0 d K fr tk τ = pK (ld1 τ (tO fr x)) d K fr tk τ:=(mi d K fr tk τ (tP (.load1 x) fr τ)).trans (by unfold ld1; rfl)
theorem zbup (id off:Nat):ld1 τ (.ptr id off) = zb3l τ id off:=rfl
theorem zcph (cs:List TV) (off:Nat):ld1 τ (.rptr cs off) = cs[off]?:=rfl
theorem zbw1 (n:Nat) (x:Operand):tG Γ dr (.loadN n x) m d K fr tk τ = pK (ldN n τ (tO fr x)) d K fr tk τ:=(mi d K fr tk τ (tP (.loadN n x) fr τ)).trans (by unfold ldN; rfl)
theorem zbuo (n id off:Nat):ldN n τ (.ptr id off) = if n = 0 then none else (sa τ id off n).map .agg:=rfl
theorem zcpi (n:Nat) (cs:List TV) (off:Nat):ldN n τ (.rptr cs off) = if off + n ≤ cs.length then some (.agg ((cs.drop off).take n)) else none:=rfl
def zcm7:TV → Option TV | .ptr id off => some (.ptr id off) | .rptr cs off => some (.rptr cs off) | .func f a b => some (.func f a b) | _ => none
theorem zcn8 (x:Operand):tG Γ dr (.nilchk x) m d K fr tk τ = pK (zcm7 (tO fr x)) d K fr tk τ:=(mi d K fr tk τ (tP (.nilchk x) fr τ)).trans (by unfold zcm7; rfl)
theorem zcqj (id off:Nat):zcm7 (.ptr id off) = some (.ptr id off):=rfl
theorem zcdm (op:BinOp) (x y:Operand):tG Γ dr (.bin op x y) m d K fr tk τ = pK (a7 op (tO fr x) (tO fr y)) d K fr tk τ:=(mi d K fr tk τ (tP (.bin op x y) fr τ)).trans (by rfl)
def eqb (neg:Bool) (p q:TV):Option TV:=match p,q with | .bool p,.bool q => some (.bool (bif neg then p != q else p == q)) | _,_ => none
theorem zcdk (neg:Bool) (x y:Operand):tG Γ dr (.eqB neg x y) m d K fr tk τ = pK (eqb neg (tO fr x) (tO fr y)) d K fr tk τ:=(mi d K fr tk τ (tP (.eqB neg x y) fr τ)).trans (by unfold eqb; rfl)
theorem zb2o (neg p q:Bool):eqb neg (.bool p) (.bool q) = some (.bool (bif neg then p != q else p == q)):=rfl
theorem zdb8 (op:UnOp) (x:Operand):tG Γ dr (.un op x) m d K fr tk τ = pK (tun op (tO fr x)) d K fr tk τ:=(mi d K fr tk τ (tP (.un op x) fr τ)).trans (by rfl)
def cnv (k:IntKind):TV → Option TV | .int _ n => some (.int k (k.wrap n)) | _ => none
theorem zb3b (k:IntKind) (x:Operand):tG Γ dr (.conv k x) m d K fr tk τ = pK (cnv k (tO fr x)) d K fr tk τ:=(mi d K fr tk τ (tP (.conv k x) fr τ)).trans (by unfold cnv; rfl)
theorem zbvp (k j:IntKind) (n:Int):cnv k (.int j n) = some (.int k (k.wrap n)):=rfl
def fad (off:Nat):TV → Option TV | .ptr id o => some (.ptr id (o + off)) | .rptr cs o => some (.rptr cs (o + off)) | _ => none
theorem zc7a (off:Nat) (x:Operand):tG Γ dr (.fieldAddr off x) 0 d K fr tk τ = pK (fad off (tO fr x)) d K fr tk τ:=(mi d K fr tk τ (tP (.fieldAddr off x) fr τ)).trans (by unfold fad; rfl)
def lfO (b:Option Ob) (id o off:Nat) (d:Option Nat) (K:ap) (fr:TF) (tk:TK) (τ:TH):Prop:=match b with
 | some b => (τ.lock ≤ id ∧ b.cs ≠ []) ∧ K (fp (zanw id τ.next fr) d (.ptr τ.next (o + off))) tk ((τ.put id ⟨b.t,[]⟩).push b)
 | none => False
def lfK (off:Nat) (v:TV) (d:Option Nat) (K:ap) (fr:TF) (tk:TK) (τ:TH):Prop:=match v with | .ptr id o => lfO (τ.at id) id o off d K fr tk τ | _ => False
theorem zbr8 (id n:Nat) (fr:TF) (x:Operand):tO (zanw id n fr) x = ren id n (tO fr x) ∨ ∃ v,x = .const v:=by
 cases x with
 | tmp t =>
  left
  induction fr with
  | nil => rfl
  | cons p r ih =>
   obtain ⟨k,v⟩:=p
   show lkp ((k,ren id n v) :: zanw id n r) t = ren id n (lkp ((k,v) :: r) t)
   simp only [lkp]
   by_cases h:t = k
   · rw [if_pos h,if_pos h]
   · rw [if_neg h,if_neg h]; exact ih
 | const v => exact .inr ⟨v,rfl⟩
 | func f => left; rfl
 | global g => left; rfl
theorem zb28 (off:Nat) (t:Nat) (h:lfK off (lkp fr t) d K fr tk τ):tG Γ dr (.fieldAddr off (.tmp t)) 9 d K fr tk τ:=by
 unfold lfK at h
 split at h
 · rename_i id o hz
   have hz':tO fr (.tmp t) = .ptr id o:=hz
   unfold lfO at h
   split at h
   · rename_i b hb
     obtain ⟨hc,h⟩:=h
     have e:wy (.fieldAddr off (.tmp t)) 9 fr τ = (zanw id τ.next fr,(τ.put id ⟨b.t,[]⟩).push b):=by
      unfold wy zb3k
      rw [if_pos rfl]
      simp only [hz',hb]
      rw [if_pos hc]
     simp only [tG,e]
     have e2:tO (zanw id τ.next fr) (.tmp t) = .ptr τ.next o:=by
      rcases zbr8 id τ.next fr (.tmp t) with e2 | ⟨v,e2⟩
      · rw [e2,hz']; simp [ren]
      · cases e2
     simp only [tOp,tP,e2]
     exact h
   · exact h.elim
 · exact h.elim
theorem zbuk (off id o:Nat):lfK off (.ptr id o) d K fr tk τ = lfO (τ.at id) id o off d K fr tk τ:=rfl
theorem zcpm (id o off:Nat) (t:TypeId) (cs:List TV):lfO (some ⟨t,cs⟩) id o off d K fr tk τ = ((τ.lock ≤ id ∧ cs ≠ []) ∧ K (fp (zanw id τ.next fr) d (.ptr τ.next (o + off))) tk ((τ.put id ⟨t,[]⟩).push ⟨t,cs⟩)):=rfl
theorem zcq9 (i n:Nat):zanw i n [] = []:=rfl
theorem zcsr (i n k:Nat) (v:TV) (l:TF):zanw i n ((k,v) :: l) = (k,ren i n v) :: zanw i n l:=rfl
theorem zbs1 (i n j o:Nat):ren i n (.ptr j o) = if j = i then .ptr n o else .ptr j o:=rfl
theorem zbs2 (i n:Nat) (k:IntKind) (x:Int):ren i n (TV.int k x) = TV.int k x:=rfl
theorem zbsy (i n:Nat) (s:ByteArray):ren i n (TV.str s) = TV.str s:=rfl
theorem zbsz (i n:Nat) :ren i n (TV.slz ) = TV.slz :=rfl
theorem zb1s (i n:Nat) (l:List TV):ren i n (TV.sl l) = TV.sl l:=rfl
theorem zbs0 (i n:Nat) (j o n0 s:Nat):ren i n (TV.slm j o n0 s) = TV.slm j o n0 s:=rfl
theorem zbs3 (i n:Nat) (cs:List TV):ren i n (TV.agg cs) = TV.agg cs:=rfl
theorem zbvf (off id o:Nat):fad off (.ptr id o) = some (.ptr id (o + off)):=rfl
theorem zco6 (off:Nat) (cs:List TV) (o:Nat):fad off (.rptr cs o) = some (.rptr cs (o + off)):=rfl
def fl1 (off:Nat):TV → Option TV | .agg cs => cs[off]? | _ => none
theorem zcn6 (off:Nat) (x:Operand):tG Γ dr (.field1 off x) m d K fr tk τ = pK (fl1 off (tO fr x)) d K fr tk τ:=(mi d K fr tk τ (tP (.field1 off x) fr τ)).trans (by unfold fl1; rfl)
theorem zbve (off:Nat) (cs:List TV):fl1 off (.agg cs) = cs[off]?:=rfl
def ixP (len sz:Nat) (x i:TV):Option TV:=match x,i with
 | .ptr id o,.int _ n => if 0 ≤ n ∧ n < len then some (.ptr id (o + n.toNat * sz)) else none
 | .rptr cs o,.int _ n => if 0 ≤ n ∧ n < len then some (.rptr cs (o + n.toNat * sz)) else none
 | _,_ => none
theorem zcts (len sz:Nat) (x i:Operand):tG Γ dr (.indexPtr len sz x i) m d K fr tk τ = pK (ixP len sz (tO fr x) (tO fr i)) d K fr tk τ:=(mi d K fr tk τ (tP (.indexPtr len sz x i) fr τ)).trans (by unfold ixP; rfl)
theorem zbux (len sz id o:Nat) (k:IntKind) (n:Int):ixP len sz (.ptr id o) (.int k n) = if 0 ≤ n ∧ n < len then some (.ptr id (o + n.toNat * sz)) else none:=rfl
def ixS (sz:Nat) (x i:TV):Option TV:=match i with
 | .int _ n => (match x with
  | .slm id o len s => if 0 ≤ n ∧ n < len ∧ s = sz then some (.ptr id (o + n.toNat * sz)) else none
  | v => v.list.bind fun l => if 0 ≤ n ∧ n < l.length ∧ (l.getD n.toNat .undef).cells.length = sz then some (.rptr (l.getD n.toNat .undef).cells 0) else none)
 | _ => none
theorem zcro (sz:Nat) (x i:Operand):tG Γ dr (.indexSl sz x i) m d K fr tk τ = pK (ixS sz (tO fr x) (tO fr i)) d K fr tk τ:=(mi d K fr tk τ (tP (.indexSl sz x i) fr τ)).trans (by unfold ixS; rfl)
theorem zb2h (sz:Nat) (l:List TV) (j:IntKind) (n:Int):ixS sz (.sl l) (.int j n) = if 0 ≤ n ∧ n < l.length ∧ (l.getD n.toNat .undef).cells.length = sz then some (.rptr (l.getD n.toNat .undef).cells 0) else none:=rfl
theorem zbuw (sz id o len s:Nat) (j:IntKind) (n:Int):ixS sz (.slm id o len s) (.int j n) = if 0 ≤ n ∧ n < len ∧ s = sz then some (.ptr id (o + n.toNat * sz)) else none:=rfl
def ixT (x i:TV):Option TV:=match x,i with | .str s,.int _ n => if 0 ≤ n ∧ n < s.size then some (.int .u8 (s.data.getD n.toNat 0).toNat) else none | _,_ => none
theorem zctt (x i:Operand):tG Γ dr (.indexStr x i) m d K fr tk τ = pK (ixT (tO fr x) (tO fr i)) d K fr tk τ:=(mi d K fr tk τ (tP (.indexStr x i) fr τ)).trans (by unfold ixT; rfl)
theorem zcci (s:ByteArray) (k:IntKind) (n:Int):ixT (.str s) (.int k n) = if 0 ≤ n ∧ n < s.size then some (.int .u8 (s.data.getD n.toNat 0).toNat) else none:=rfl
def slT (x:TV) (lo hi:Option TV):Option TV:=match x with | .str s => (oo s.size lo hi).map fun lh => .str (s.extract lh.1 lh.2) | _ => none
theorem zctu (x:Operand) (lo hi:Option Operand):tG Γ dr (.sliceStr x lo hi) m d K fr tk τ = pK (slT (tO fr x) (lo.map (tO fr)) (hi.map (tO fr))) d K fr tk τ:=(mi d K fr tk τ (tP (.sliceStr x lo hi) fr τ)).trans (by unfold slT; rfl)
theorem zcbj (s:ByteArray) (lo hi:Option TV):slT (.str s) lo hi = (oo s.size lo hi).map fun lh => .str (s.extract lh.1 lh.2):=rfl
def slS (sz:Nat) (x:TV) (lo hi:Option TV):Option TV:=match x with
 | .slm id o len s => if s = sz then (oo len lo hi).map fun lh => .slm id (o + lh.1 * sz) (lh.2 - lh.1) sz else none
 | .sl l => if l.all (fun e => e.cells.length == sz) && !l.isEmpty then (oo l.length lo hi).map fun lh => .sl ((l.take lh.2).drop lh.1) else none
 | .sla _ l => if l.all (fun e => e.cells.length == sz) && !l.isEmpty then (oo l.length lo hi).map fun lh => .sl ((l.take lh.2).drop lh.1) else none
 | _ => none
theorem zcrs (sz:Nat) (x:Operand) (lo hi:Option Operand):tG Γ dr (.sliceSl sz x lo hi) m d K fr tk τ = pK (slS sz (tO fr x) (lo.map (tO fr)) (hi.map (tO fr))) d K fr tk τ:=(mi d K fr tk τ (tP (.sliceSl sz x lo hi) fr τ)).trans (by unfold slS; rfl)
theorem zb1n (sz:Nat) (l:List TV) (lo hi:Option TV):slS sz (.sl l) lo hi = if l.all (fun e => e.cells.length == sz) && !l.isEmpty then (oo l.length lo hi).map fun lh => .sl ((l.take lh.2).drop lh.1) else none:=rfl
theorem zbsk (sz id o len s:Nat) (lo hi:Option TV):slS sz (.slm id o len s) lo hi = if s = sz then (oo len lo hi).map fun lh => .slm id (o + lh.1 * sz) (lh.2 - lh.1) sz else none:=rfl
theorem zcbb (n:Nat) (k:IntKind) (l:Int):oo n (some (.int k l)) none = if 0 ≤ l ∧ l ≤ n then some (l.toNat,n) else none:=rfl
theorem zcba (n:Nat) (k:IntKind) (h:Int):oo n none (some (.int k h)) = if 0 ≤ h ∧ h ≤ n then some (0,h.toNat) else none:=by unfold oo tHi; by_cases c:0 ≤ h ∧ h ≤ n <;> simp [c,tLo]
theorem zcbc (n:Nat) (k j:IntKind) (l h:Int):oo n (some (.int k l)) (some (.int j h)) = if (0 ≤ h ∧ h ≤ n) ∧ 0 ≤ l ∧ l ≤ h then some (l.toNat,h.toNat) else none:=by
 unfold oo tHi
 by_cases c:0 ≤ h ∧ h ≤ n
 · have e:((h.toNat:Nat):Int) = h:=by omega
   simp only [c,and_self,if_true,Option.bind_some,tLo,e,true_and]
 · have c':¬ ((0 ≤ h ∧ h ≤ n) ∧ 0 ≤ l ∧ l ≤ h):=fun q => c q.1
   rw [if_neg c']
   simp [c]
theorem zbt7 {α β:Type} (c:Prop) [Decidable c] (x:α) (f:α → β):(if c then some x else none:Option α).map f = if c then some (f x) else none:=by by_cases h:c <;> simp [h]
def zcnd:TV → Option TV | .str s => some (.int .i64 s.size) | _ => none
theorem zb29 (x:Operand):tG Γ dr (.lenS x) m d K fr tk τ = pK (zcnd (tO fr x)) d K fr tk τ:=(mi d K fr tk τ (tP (.lenS x) fr τ)).trans (by unfold zcnd; rfl)
theorem zb2g (s:ByteArray):zcnd (.str s) = some (.int .i64 s.size):=rfl
def zb8y:TV → Option TV | .slm _ _ n _ => some (.int .i64 n) | v => v.list.map fun l => .int .i64 l.length
theorem zb3a (x:Operand):tG Γ dr (.lenL x) m d K fr tk τ = pK (zb8y (tO fr x)) d K fr tk τ:=(mi d K fr tk τ (tP (.lenL x) fr τ)).trans (by unfold zb8y; rfl)
theorem zcpk (id o n s:Nat):zb8y (.slm id o n s) = some (.int .i64 n):=rfl
theorem zbul (l:List TV):zb8y (.sl l) = some (.int .i64 l.length):=rfl
theorem zcpj (k:Nat) (l:List TV):zb8y (.sla k l) = some (.int .i64 l.length):=rfl
theorem zcpl:zb8y .slz = some (.int .i64 0):=rfl
theorem zcn7 (f:FuncId) (first captured:List Operand):tG Γ dr (.mkFunc (.func f) first captured) m d K fr tk τ = K (fp fr d (.func f (first.map fun x => (tO fr x).canS) (captured.map fun x => (tO fr x).canS))) tk τ:=rfl
theorem zbw6 (zero:List Value) (parts:List (Nat × Nat × Operand)):tG Γ dr (.build zero parts) m d K fr tk τ = pK ((zbzz (zero.map ofS) (parts.map fun p => (p.1,p.2.1,tO fr p.2.2))).map .agg) d K fr tk τ:=(mi d K fr tk τ (tP (.build zero parts) fr τ)).trans (by rfl)
theorem zctn (cs:List TV):zbzz cs [] = some cs:=rfl
theorem zcus (cs:List TV) (off size:Nat) (v:TV) (r:List (Nat × Nat × TV)):zbzz cs ((off,size,v) :: r) = if v.known = true ∧ v.cells.length = size ∧ off + size ≤ cs.length then zbzz (ud cs off (v.cells.map TV.part)) r else none:=rfl
theorem zchy (cs:List TV) (off:Nat):ud cs off [] = cs:=rfl
theorem zcl3 (cs:List TV) (off:Nat) (v:TV) (r:List TV):ud cs off (v :: r) = ud (cs.set off v) (off + 1) r:=rfl
def zcbi (τ:TH):TV → Option TV | .slm id off n s => (if s = 1 then ((sa τ id off n).bind wx).map fun bs => .str ⟨bs.toArray⟩ else none) | v => (v.list.bind wx).map fun bs => .str ⟨bs.toArray⟩
theorem zbwz (x:Operand):tG Γ dr (.toStr x) m d K fr tk τ = pK (zcbi τ (tO fr x)) d K fr tk τ:=(mi d K fr tk τ (tP (.toStr x) fr τ)).trans (by unfold zcbi; rfl)
theorem zcrv (l:List TV):zcbi τ (.sl l) = (wx l).map fun bs => .str ⟨bs.toArray⟩:=rfl
theorem zctq (k:Nat) (l:List TV):zcbi τ (.sla k l) = (wx l).map fun bs => .str ⟨bs.toArray⟩:=rfl
theorem zcqr (id off n s:Nat):zcbi τ (.slm id off n s) = if s = 1 then ((sa τ id off n).bind wx).map fun bs => .str ⟨bs.toArray⟩ else none:=rfl
def ixA (len:Nat) (x i:TV):Option TV:=match x,i with | .agg cs,.int _ n => if 0 ≤ n ∧ n < len ∧ len ≤ cs.length then cs[n.toNat]? else none | _,_ => none
theorem zctr (len:Nat) (x i:Operand):tG Γ dr (.indexAgg len x i) m d K fr tk τ = pK (ixA len (tO fr x) (tO fr i)) d K fr tk τ:=(mi d K fr tk τ (tP (.indexAgg len x i) fr τ)).trans (by unfold ixA; rfl)
theorem zcck (len:Nat) (cs:List TV) (k:IntKind) (n:Int):ixA len (.agg cs) (.int k n) = if 0 ≤ n ∧ n < len ∧ len ≤ cs.length then cs[n.toNat]? else none:=rfl
theorem zcdl (t n:Nat) (x:Operand):tG Γ dr (.box t n x) m d K fr tk τ = (((tO fr x).cells.all TV.one = true ∧ ju τ.next ((tO fr x).cells.map TV.put) = true) ∧ K (fp fr d (.ptr τ.next 0)) tk (τ.push ⟨t,(tO fr x).cells.map TV.put⟩)):=zb5v d K fr _ _
def stK (n:Nat) (a x:TV) (d:Option Nat) (K:ap) (fr:TF) (tk:TK) (τ:TH):Prop:=match a with
 | .ptr id off => x.cells.length = n ∧ (match zb4p τ id off (x.cells.map TV.put) with | some τ' => K (fp fr d (.tup [])) tk τ' | none => False)
 | _ => False
theorem zbw0 (n:Nat) (y x:Operand):tG Γ dr (.store n y x) 0 d K fr tk τ = stK n (tO fr y) (tO fr x) d K fr tk τ:=by
 have e0:wy (.store n y x) 0 fr τ = (fr,τ):=rfl
 simp only [tG,e0,tOp,stK]
 cases tO fr y with
 | ptr id off =>
  by_cases h:(tO fr x).cells.length = n
  · simp only [h,if_true,true_and,show (0:Nat) = 2 ↔ False from by decide,if_false]
    cases zb4p τ id off ((tO fr x).cells.map TV.put) <;> rfl
  · simp [h,opK]
 | _ => rfl
def stB (o:Option Ob) (id off:Nat) (vs:List TV) (d:Option Nat) (K:ap) (fr:TF) (tk:TK) (τ:TH):Prop:=match o with
 | some b => (τ.lock ≤ id ∧ vs ≠ [] ∧ off + vs.length ≤ b.cs.length ∧ (vs.all TV.one = true) ∧ ju (id + 1) vs = true) ∧ K (fp fr d (.tup [])) tk (τ.put id ⟨b.t,ud b.cs off vs⟩)
 | none => False
theorem zbzv (n t:Nat) (x:Operand) (id o:Nat) (T:TypeId) (cs:List TV) (hz:lkp fr t = .ptr id o) (hb:τ.at id = some ⟨T,cs⟩) (hc:τ.lock ≤ id ∧ cs ≠ []) (hx:∀ v,x ≠ .const v)
 (h:stK n (.ptr τ.next o) (ren id τ.next (tO fr x)) d K (zanw id τ.next fr) tk ((τ.put id ⟨T,[]⟩).push ⟨T,cs⟩)):tG Γ dr (.store n (.tmp t) x) 9 d K fr tk τ:=by
 have hz':tO fr (.tmp t) = .ptr id o:=hz
 have e:wy (.store n (.tmp t) x) 9 fr τ = (zanw id τ.next fr,(τ.put id ⟨T,[]⟩).push ⟨T,cs⟩):=by
  unfold wy zb3k
  rw [if_pos rfl]
  simp only [hz',hb]
  rw [if_pos hc]
 have e2:tO (zanw id τ.next fr) (.tmp t) = .ptr τ.next o:=by
  rcases zbr8 id τ.next fr (.tmp t) with e2 | ⟨v,e2⟩
  · rw [e2,hz']; simp [ren]
  · cases e2
 have e3:tO (zanw id τ.next fr) x = ren id τ.next (tO fr x):=by
  rcases zbr8 id τ.next fr x with e3 | ⟨v,e3⟩
  · exact e3
  · exact absurd e3 (hx v)
 simp only [tG,e,tOp,e2,e3]
 unfold stK at h
 simp only at h
 rw [if_neg (by decide),if_pos h.1]
 have h2:=h.2
 revert h2
 cases zb4p ((τ.put id ⟨T,[]⟩).push ⟨T,cs⟩) τ.next o ((ren id τ.next (tO fr x)).cells.map TV.put) <;> exact fun h => h
theorem zbsj (n id off:Nat) (x:TV):stK n (.ptr id off) x d K fr tk τ = (x.cells.length = n ∧ stB (τ.at id) id off (x.cells.map TV.put) d K fr tk τ):=by
 simp only [stK,stB,zb4p]
 cases τ.at id with
 | none => rfl
 | some b =>
  simp only [Option.bind_some]
  split
  · rename_i τ' h
    split at h
    · rename_i hc; injection h with h; subst h; simp only [hc,ne_eq,not_false_eq_true,and_self,true_and]
    · cases h
  · rename_i h
    split at h
    · cases h
    · rename_i hc; simp only [hc,false_and]
theorem zcqp (t:TypeId) (cs:List TV) (id off:Nat) (vs:List TV):stB (some ⟨t,cs⟩) id off vs d K fr tk τ = ((τ.lock ≤ id ∧ vs ≠ [] ∧ off + vs.length ≤ cs.length ∧ (vs.all TV.one = true) ∧ ju (id + 1) vs = true) ∧ K (fp fr d (.tup [])) tk (τ.put id ⟨t,ud cs off vs⟩)):=rfl
def tkB (o:Option Ob) (id off:Nat) (d:Option Nat) (K:ap) (fr:TF) (tk:TK) (τ:TH):Prop:=match o with
 | some b => (match b.cs[off]? with | some (.slo t l) => τ.lock ≤ id ∧ K (fp fr d (.sla tk.length l)) (tk ++ [some (l.length,t)]) (τ.put id ⟨b.t,b.cs.set off (.sl l)⟩) | some .slz => τ.lock ≤ id ∧ K (fp fr d (.sla tk.length [])) (tk ++ [some (0,0)]) (τ.put id ⟨b.t,b.cs.set off (.sl [])⟩) | _ => False)
 | none => False
def tkK (x:TV) (d:Option Nat) (K:ap) (fr:TF) (tk:TK) (τ:TH):Prop:=match x with | .ptr id off => tkB (τ.at id) id off d K fr tk τ | _ => False
def tkC (t:TypeId) (cs:List TV) (id off:Nat) (v:Option TV) (d:Option Nat) (K:ap) (fr:TF) (tk:TK) (τ:TH):Prop:=match v with | some (.slo u l) => τ.lock ≤ id ∧ K (fp fr d (.sla tk.length l)) (tk ++ [some (l.length,u)]) (τ.put id ⟨t,cs.set off (.sl l)⟩) | some .slz => τ.lock ≤ id ∧ K (fp fr d (.sla tk.length [])) (tk ++ [some (0,0)]) (τ.put id ⟨t,cs.set off (.sl [])⟩) | _ => False
theorem zbw2 (x:Operand):tG Γ dr (.load1 x) 2 d K fr tk τ = tkK (tO fr x) d K fr tk τ:=by
 simp only [tG,tOp,tkK,if_true]
 cases tO fr x with
 | ptr id off =>
  simp only [tkB]
  cases τ.at id with
  | none => rfl
  | some b =>
   simp only [Option.bind_some]
   cases hq:b.cs[off]? with
   | none => rfl
   | some v =>
    cases v with
    | slo t l => by_cases h:τ.lock ≤ id <;> simp [h,opK]
    | slz => by_cases h:τ.lock ≤ id <;> simp [h,opK]
    | _ => rfl
 | _ => rfl
theorem zbro (id off:Nat):tkK (.ptr id off) d K fr tk τ = tkB (τ.at id) id off d K fr tk τ:=rfl
theorem zcq8 (t:TypeId) (cs:List TV) (id off:Nat):tkB (some ⟨t,cs⟩) id off d K fr tk τ = tkC t cs id off cs[off]? d K fr tk τ:=rfl
theorem zcrj (t:TypeId) (cs:List TV) (id off:Nat):tkC t cs id off (some .slz) d K fr tk τ = (τ.lock ≤ id ∧ K (fp fr d (.sla tk.length [])) (tk ++ [some (0,0)]) (τ.put id ⟨t,cs.set off (.sl [])⟩)):=rfl
theorem zcri (t u:TypeId) (cs l:List TV) (id off:Nat):tkC t cs id off (some (.slo u l)) d K fr tk τ = (τ.lock ≤ id ∧ K (fp fr d (.sla tk.length l)) (tk ++ [some (l.length,u)]) (τ.put id ⟨t,cs.set off (.sl l)⟩)):=rfl
def s2K (n:Nat) (a x:TV) (d:Option Nat) (K:ap) (fr:TF) (tk:TK) (τ:TH):Prop:=match a,x with
 | .ptr id off,.sla tok l => (match tk[tok]? with
  | some (some (k,t)) => (k = l.length ∧ n = 1) ∧ stB (τ.at id) id off [.slo t l] d K fr (tk.set tok none) τ
  | _ => False)
 | _,_ => False
def s2T (o:Option (Option (Nat × TypeId))) (n id off tok:Nat) (l:List TV) (d:Option Nat) (K:ap) (fr:TF) (tk:TK) (τ:TH):Prop:=match o with
 | some (some (k,t)) => (k = l.length ∧ n = 1) ∧ stB (τ.at id) id off [.slo t l] d K fr (tk.set tok none) τ
 | _ => False
theorem zcn9 (n:Nat) (y x:Operand):tG Γ dr (.store n y x) 2 d K fr tk τ = s2K n (tO fr y) (tO fr x) d K fr tk τ:=by
 have e0:wy (.store n y x) 2 fr τ = (fr,τ):=rfl
 simp only [tG,e0,tOp,s2K,if_true]
 cases tO fr y with
 | ptr id off =>
  cases tO fr x with
  | sla tok l =>
   simp only
   cases tk[tok]? with
   | none => rfl
   | some o =>
    cases o with
    | none => rfl
    | some p =>
     obtain ⟨k,t⟩:=p
     by_cases h:k = l.length ∧ n = 1
     · simp only [h,and_self,if_true,true_and,zb4p,stB]
       cases τ.at id with
       | none => rfl
       | some b =>
        simp only [Option.bind_some]
        by_cases hc:τ.lock ≤ id ∧ [TV.slo t l] ≠ [] ∧ off + [TV.slo t l].length ≤ b.cs.length ∧ ([TV.slo t l].all TV.one = true) ∧ ju (id + 1) [TV.slo t l] = true
        · rw [if_pos hc]; simp only [hc,ne_eq,not_false_eq_true,and_self,true_and]; rfl
        · rw [if_neg hc]; simp only [hc,false_and]; rfl
     · simp only [h,if_false,false_and]; rfl
  | _ => rfl
 | _ => rfl
theorem zbsr (n id off tok:Nat) (l:List TV):s2K n (.ptr id off) (.sla tok l) d K fr tk τ = s2T (tk[tok]?) n id off tok l d K fr tk τ:=rfl
theorem zcrc (n id off tok k t:Nat) (l:List TV):s2T (some (some (k,t))) n id off tok l d K fr tk τ = ((k = l.length ∧ n = 1) ∧ stB (τ.at id) id off [.slo t l] d K fr (tk.set tok none) τ):=rfl
def bsO (m:Nat) (t sz:Nat) (o:Option (List TV)) (d:Option Nat) (K:ap) (fr:TF) (tk:TK) (τ:TH):Prop:=match o with | some l => (if m = 1 then K (fp fr d (.slm τ.next 0 l.length sz)) tk (τ.push ⟨t,l.flatMap TV.cells⟩) else if m = 2 then (l ≠ [] ∧ l.length ≤ maxLen) ∧ K (fp fr d (.sla tk.length l)) (tk ++ [some (l.length,t)]) τ else K (fp fr d (.sl l)) tk τ) | none => False
theorem zcrn (t sz len:Nat) (zeros:List Value) (parts:List (Nat × Nat × Operand)):tG Γ dr (.buildSl t sz len zeros parts) m d K fr tk τ = ((parts.length = len ∧ sz ≠ 0 ∧ zeros.length = len * sz) ∧ bsO m t sz (zbq3 sz 0 (parts.map fun p => (p.1,p.2.1,tO fr p.2.2))) d K fr tk τ):=by
 simp only [tG,tOp,bsO]
 by_cases h:parts.length = len ∧ sz ≠ 0 ∧ zeros.length = len * sz
 · rw [if_pos h]
   cases zbq3 sz 0 (parts.map fun p => (p.1,p.2.1,tO fr p.2.2)) with
   | none => exact propext ⟨False.elim,fun q => q.2⟩
   | some l =>
    simp only [Option.bind_some,and_iff_right h]
    by_cases h1:m = 1
    · rw [if_pos h1,if_pos h1]; rfl
    · rw [if_neg h1,if_neg h1]
      by_cases h2:m = 2
      · rw [if_pos h2,if_pos h2]
        by_cases h3:l ≠ [] ∧ l.length ≤ maxLen
        · rw [if_pos h3]; exact propext ⟨fun q => ⟨h3,q⟩,fun q => q.2⟩
        · rw [if_neg h3]; exact propext ⟨False.elim,fun q => h3 q.1⟩
      · rw [if_neg h2,if_neg h2]; rfl
 · rw [if_neg h]; simp only [h,false_and]; rfl
theorem zcc1 (t sz:Nat) (l:List TV):bsO 0 t sz (some l) d K fr tk τ = K (fp fr d (.sl l)) tk τ:=rfl
theorem zcc0 (t sz:Nat) (l:List TV):bsO 1 t sz (some l) d K fr tk τ = K (fp fr d (.slm τ.next 0 l.length sz)) tk (τ.push ⟨t,l.flatMap TV.cells⟩):=rfl
theorem zccz (t sz:Nat) (l:List TV):bsO 2 t sz (some l) d K fr tk τ = ((l ≠ [] ∧ l.length ≤ maxLen) ∧ K (fp fr d (.sla tk.length l)) (tk ++ [some (l.length,t)]) τ):=rfl
theorem zcur (sz i:Nat):zbq3 sz i [] = some []:=rfl
theorem zc8i (sz i off n:Nat) (v:TV) (r:List (Nat × Nat × TV)):zbq3 sz i ((off,n,v) :: r) = if off = i * sz ∧ n = sz ∧ v.canA.cells.length = sz ∧ v.canA.pure = true then (zbq3 sz (i + 1) r).map (v.canA :: ·) else none:=rfl
def msK (mu:Bool) (t bytes:Nat) (zero:List Value) (l c:TV) (d:Option Nat) (K:ap) (fr:TF) (tk:TK) (τ:TH):Prop:=match l,c with
 | .int _ n,.int _ k => (0 ≤ n ∧ n ≤ k ∧ k * bytes ≤ 140737488355328 ∧ k ≤ 9223372036854775807 ∧ zero.length ≠ 0 ∧ (zero.all fun z => (ofS z).canS.pureS) = true) ∧
  (bif mu then K (fp fr d (.slm τ.next 0 n.toNat zero.length)) tk (τ.push ⟨t,((List.replicate n.toNat (zero.map fun z => (ofS z).put)).flatten)⟩) else K (fp fr d (.sl (List.replicate n.toNat (zac6 (zero.map fun z => (ofS z).canS))))) tk τ)
 | _,_ => False
theorem zcrp (t bytes:Nat) (zero:List Value) (l c:Operand):tG Γ dr (.makeSl t bytes zero l c) 0 d K fr tk τ = msK false t bytes zero (tO fr l) (tO fr c) d K fr tk τ:=by
 simp only [tG,tOp,msK]
 cases tO fr l with
 | int k1 n =>
  cases tO fr c with
  | int k2 k =>
   simp only
   by_cases h:0 ≤ n ∧ n ≤ k ∧ k * bytes ≤ 140737488355328 ∧ k ≤ 9223372036854775807 ∧ zero.length ≠ 0 ∧ (zero.all fun z => (ofS z).canS.pureS) = true
   · rw [if_pos h]; simp only [h,ne_eq,not_false_eq_true,and_self,true_and]; rfl
   · rw [if_neg h]; simp only [h,false_and]; rfl
  | _ => rfl
 | _ => rfl
theorem zcrq (t bytes:Nat) (zero:List Value) (l c:Operand):tG Γ dr (.makeSl t bytes zero l c) 1 d K fr tk τ = msK true t bytes zero (tO fr l) (tO fr c) d K fr tk τ:=by
 simp only [tG,tOp,msK]
 cases tO fr l with
 | int k1 n =>
  cases tO fr c with
  | int k2 k =>
   simp only
   by_cases h:0 ≤ n ∧ n ≤ k ∧ k * bytes ≤ 140737488355328 ∧ k ≤ 9223372036854775807 ∧ zero.length ≠ 0 ∧ (zero.all fun z => (ofS z).canS.pureS) = true
   · rw [if_pos h]; simp only [h,ne_eq,not_false_eq_true,and_self,true_and]; rfl
   · rw [if_neg h]; simp only [h,false_and]; rfl
  | _ => rfl
 | _ => rfl
def msA (t bytes:Nat) (zero:List Value) (l c:TV) (d:Option Nat) (K:ap) (fr:TF) (tk:TK) (τ:TH):Prop:=match l,c with
 | .int _ n,.int _ k => (0 ≤ n ∧ n ≤ k ∧ k * bytes ≤ 140737488355328 ∧ k ≤ 9223372036854775807 ∧ zero.length ≠ 0 ∧ (zero.all fun z => (ofS z).canS.pureS) = true) ∧ (n = 0 ∧ zero.length = 1) ∧ K (fp fr d (.slb tk.length t)) (tk ++ [some (0,t)]) τ
 | _,_ => False
theorem zcrr (t bytes:Nat) (zero:List Value) (l c:Operand):tG Γ dr (.makeSl t bytes zero l c) 2 d K fr tk τ = msA t bytes zero (tO fr l) (tO fr c) d K fr tk τ:=by
 simp only [tG,tOp,msA]
 cases tO fr l with
 | int k1 n =>
  cases tO fr c with
  | int k2 k =>
   simp only
   by_cases h:0 ≤ n ∧ n ≤ k ∧ k * bytes ≤ 140737488355328 ∧ k ≤ 9223372036854775807 ∧ zero.length ≠ 0 ∧ (zero.all fun z => (ofS z).canS.pureS) = true
   · rw [if_pos h,if_neg (by decide),if_pos trivial]
     by_cases h2:n = 0 ∧ zero.length = 1
     · rw [if_pos h2]; exact propext ⟨fun q => ⟨h,h2,q⟩,fun q => q.2.2⟩
     · rw [if_neg h2]; exact propext ⟨False.elim,fun q => h2 q.2.1⟩
   · rw [if_neg h]; simp only [h,false_and]; rfl
  | _ => rfl
 | _ => rfl
theorem zcb4 (t bytes:Nat) (zero:List Value) (j1 j2:IntKind) (n k:Int):msA t bytes zero (.int j1 n) (.int j2 k) d K fr tk τ = ((0 ≤ n ∧ n ≤ k ∧ k * bytes ≤ 140737488355328 ∧ k ≤ 9223372036854775807 ∧ zero.length ≠ 0 ∧ (zero.all fun z => (ofS z).canS.pureS) = true) ∧ (n = 0 ∧ zero.length = 1) ∧ K (fp fr d (.slb tk.length t)) (tk ++ [some (0,t)]) τ):=rfl
theorem zcb3 (mu:Bool) (t bytes:Nat) (zero:List Value) (j1 j2:IntKind) (n k:Int):msK mu t bytes zero (.int j1 n) (.int j2 k) d K fr tk τ = ((0 ≤ n ∧ n ≤ k ∧ k * bytes ≤ 140737488355328 ∧ k ≤ 9223372036854775807 ∧ zero.length ≠ 0 ∧ (zero.all fun z => (ofS z).canS.pureS) = true) ∧ (bif mu then K (fp fr d (.slm τ.next 0 n.toNat zero.length)) tk (τ.push ⟨t,((List.replicate n.toNat (zero.map fun z => (ofS z).put)).flatten)⟩) else K (fp fr d (.sl (List.replicate n.toNat (zac6 (zero.map fun z => (ofS z).canS))))) tk τ)):=rfl
def apK (t sz bytes:Nat) (s:TV) (o:Option (List TV)) (d:Option Nat) (K:ap) (fr:TF) (tk:TK) (τ:TH):Prop:=match o with
 | some xs => (match zbm3 t sz bytes s xs tk with | some (v,tk') => K (fp fr d v) tk' τ | none => False)
 | none => False
def apT (o:Option (Option (Nat × TypeId))) (t sz bytes tok:Nat) (l xs:List TV) (d:Option Nat) (K:ap) (fr:TF) (tk:TK) (τ:TH):Prop:=match o with
 | some (some (n,t')) => ((xs.all (fun e => e.cells.length == sz && e.pure) = true ∧ xs.length * bytes ≤ 140737488355328 ∧ xs.length ≤ maxLen) ∧ n = l.length ∧ (n = 0 ∨ t' = t) ∧ (l.all (fun e => e.cells.length == sz) = true) ∧ (l.length + xs.length) * bytes ≤ 140737488355328 ∧ l.length + xs.length ≤ maxLen) ∧
  K (fp fr d (.sla tok (l ++ xs))) (tk.set tok (some (l.length + xs.length,t))) τ
 | _ => False
theorem zcn4 (t sz bytes:Nat) (s x:Operand):tG Γ dr (.append t sz bytes s x) 0 d K fr tk τ = (sz ≠ 0 ∧ apK t sz bytes (tO fr s) (tO fr x).list d K fr tk τ):=by
 simp only [tG,tOp,apK]
 by_cases h:sz = 0
 · simp [h,opK]
 · simp only [h,if_false,ne_eq,not_false_eq_true,true_and]
   cases (tO fr x).list with
   | none => rfl
   | some xs =>
    simp only [Option.bind_some,show (0:Nat) = 1 ↔ False from by decide,if_false]
    cases zbm3 t sz bytes (tO fr s) xs tk <;> rfl
def amK (t sz bytes:Nat) (s:TV) (o:Option (List TV)) (d:Option Nat) (K:ap) (fr:TF) (tk:TK) (τ:TH):Prop:=match o with
 | some xs => (match zbm2 t sz bytes s xs τ with | some (v,τ') => K (fp fr d v) tk τ' | none => False)
 | none => False
def amO (b:Option Ob) (t sz bytes id n:Nat) (xs:List TV) (d:Option Nat) (K:ap) (fr:TF) (tk:TK) (τ:TH):Prop:=match b with
 | some b => (b.t = t ∧ b.cs.length = n * sz ∧ n ≠ 0 ∧ τ.lock ≤ id ∧ (n + xs.length) * bytes ≤ 140737488355328 ∧ n + xs.length ≤ maxLen) ∧ K (fp fr d (.slm τ.next 0 (n + xs.length) sz)) tk ((τ.put id ⟨t,[]⟩).push ⟨t,b.cs ++ xs.flatMap TV.cells⟩)
 | none => False
theorem zcrk (t sz bytes:Nat) (s x:Operand):tG Γ dr (.append t sz bytes s x) 1 d K fr tk τ = (sz ≠ 0 ∧ amK t sz bytes (tO fr s) (tO fr x).list d K fr tk τ):=by
 simp only [tG,tOp,amK]
 by_cases h:sz = 0
 · simp [h,opK]
 · simp only [h,if_false,ne_eq,not_false_eq_true,true_and]
   cases (tO fr x).list with
   | none => rfl
   | some xs =>
    simp only [Option.bind_some,if_true]
    cases zbm2 t sz bytes (tO fr s) xs τ <;> rfl
theorem zbwh (t sz bytes:Nat) (xs:List TV):amK t sz bytes .slz (some xs) d K fr tk τ = ((xs ≠ [] ∧ xs.all (fun e => e.cells.length == sz && e.pure) = true) ∧ (xs.length * bytes ≤ 140737488355328 ∧ xs.length ≤ maxLen) ∧ K (fp fr d (.slm τ.next 0 xs.length sz)) tk (τ.push ⟨t,xs.flatMap TV.cells⟩)):=by
 simp only [amK,zbm2]
 by_cases h:xs ≠ [] ∧ xs.all (fun e => e.cells.length == sz && e.pure) = true
 · rw [if_pos h]
   by_cases h2:xs.length * bytes ≤ 140737488355328 ∧ xs.length ≤ maxLen
   · rw [if_pos h2]; exact propext ⟨fun q => ⟨h,h2,q⟩,fun q => q.2.2⟩
   · rw [if_neg h2]; exact propext ⟨False.elim,fun q => h2 q.2.1⟩
 · rw [if_neg h]; exact propext ⟨False.elim,fun q => h q.1⟩
theorem zbwi (t sz bytes id n:Nat) (xs:List TV):amK t sz bytes (.slm id 0 n sz) (some xs) d K fr tk τ = ((xs ≠ [] ∧ xs.all (fun e => e.cells.length == sz && e.pure) = true) ∧ amO (τ.at id) t sz bytes id n xs d K fr tk τ):=by
 simp only [amK,zbm2,amO]
 by_cases h:xs ≠ [] ∧ xs.all (fun e => e.cells.length == sz && e.pure) = true
 · rw [if_pos h]
   cases τ.at id with
   | none => exact propext ⟨False.elim,fun q => q.2⟩
   | some b =>
    simp only [Option.bind_some,true_and]
    by_cases h2:b.t = t ∧ b.cs.length = n * sz ∧ n ≠ 0 ∧ τ.lock ≤ id ∧ (n + xs.length) * bytes ≤ 140737488355328 ∧ n + xs.length ≤ maxLen
    · rw [if_pos h2]; exact propext ⟨fun q => ⟨h,h2,q⟩,fun q => q.2.2⟩
    · rw [if_neg h2]; exact propext ⟨False.elim,fun q => h2 q.2.1⟩
 · rw [if_neg h]; exact propext ⟨False.elim,fun q => h q.1⟩
theorem zcow (t u sz bytes id n:Nat) (cs xs:List TV):amO (some ⟨u,cs⟩) t sz bytes id n xs d K fr tk τ = ((u = t ∧ cs.length = n * sz ∧ n ≠ 0 ∧ τ.lock ≤ id ∧ (n + xs.length) * bytes ≤ 140737488355328 ∧ n + xs.length ≤ maxLen) ∧ K (fp fr d (.slm τ.next 0 (n + xs.length) sz)) tk ((τ.put id ⟨t,[]⟩).push ⟨t,cs ++ xs.flatMap TV.cells⟩)):=rfl
def atK (t sz bytes:Nat) (s:TV) (o:Option (List TV)) (d:Option Nat) (K:ap) (fr:TF) (tk:TK) (τ:TH):Prop:=match o with
 | some xs => (match zbr3 t sz bytes s xs τ with | some (v,τ') => K (fp fr d v) tk τ' | none => False)
 | none => False
def atO (b:Option Ob) (t sz bytes id n:Nat) (xs:List TV) (d:Option Nat) (K:ap) (fr:TF) (tk:TK) (τ:TH):Prop:=match b with
 | some b => (b.t = t ∧ n * sz ≤ b.cs.length ∧ b.cs ≠ [] ∧ τ.lock ≤ id ∧ (n + xs.length) * bytes ≤ 140737488355328 ∧ n + xs.length ≤ maxLen) ∧ K (fp fr d (.slm τ.next 0 (n + xs.length) sz)) tk ((τ.put id ⟨t,[]⟩).push ⟨t,b.cs.take (n * sz) ++ xs.flatMap TV.cells⟩)
 | none => False
theorem zcrl (t sz bytes:Nat) (s x:Operand):tG Γ dr (.append t sz bytes s x) 4 d K fr tk τ = (sz ≠ 0 ∧ atK t sz bytes (tO fr s) (tO fr x).list d K fr tk τ):=by
 simp only [tG,tOp,atK]
 by_cases h:sz = 0
 · simp [h,opK]
 · simp only [h,if_false,ne_eq,not_false_eq_true,true_and]
   cases (tO fr x).list with
   | none => rfl
   | some xs =>
    simp only [Option.bind_some,if_true]
    cases zbr3 t sz bytes (tO fr s) xs τ <;> rfl
theorem zbwa (t sz bytes id n:Nat) (xs:List TV):atK t sz bytes (.slm id 0 n sz) (some xs) d K fr tk τ = ((xs ≠ [] ∧ xs.all (fun e => e.cells.length == sz && e.pure) = true) ∧ atO (τ.at id) t sz bytes id n xs d K fr tk τ):=by
 simp only [atK,zbr3,atO]
 by_cases h:xs ≠ [] ∧ xs.all (fun e => e.cells.length == sz && e.pure) = true
 · rw [if_pos h]
   cases τ.at id with
   | none => exact propext ⟨False.elim,fun q => q.2⟩
   | some b =>
    simp only [Option.bind_some,true_and]
    by_cases h2:b.t = t ∧ n * sz ≤ b.cs.length ∧ b.cs ≠ [] ∧ τ.lock ≤ id ∧ (n + xs.length) * bytes ≤ 140737488355328 ∧ n + xs.length ≤ maxLen
    · rw [if_pos h2]; exact propext ⟨fun q => ⟨h,h2,q⟩,fun q => q.2.2⟩
    · rw [if_neg h2]; exact propext ⟨False.elim,fun q => h2 q.2.1⟩
 · rw [if_neg h]; exact propext ⟨False.elim,fun q => h q.1⟩
theorem zco2 (t u sz bytes id n:Nat) (cs xs:List TV):atO (some ⟨u,cs⟩) t sz bytes id n xs d K fr tk τ = ((u = t ∧ n * sz ≤ cs.length ∧ cs ≠ [] ∧ τ.lock ≤ id ∧ (n + xs.length) * bytes ≤ 140737488355328 ∧ n + xs.length ≤ maxLen) ∧ K (fp fr d (.slm τ.next 0 (n + xs.length) sz)) tk ((τ.put id ⟨t,[]⟩).push ⟨t,cs.take (n * sz) ++ xs.flatMap TV.cells⟩)):=rfl
theorem zbwe (t sz bytes:Nat) (xs:List TV):apK t sz bytes .slz (some xs) d K fr tk τ = ((xs.all (fun e => e.cells.length == sz && e.pure) = true ∧ xs.length * bytes ≤ 140737488355328 ∧ xs.length ≤ maxLen) ∧ K (fp fr d (.sla tk.length xs)) (tk ++ [some (xs.length,t)]) τ):=by
 simp only [apK,zbm3]
 by_cases h:xs.all (fun e => e.cells.length == sz && e.pure) = true ∧ xs.length * bytes ≤ 140737488355328 ∧ xs.length ≤ maxLen
 · rw [if_pos h]; simp only [h,and_self,true_and]
 · rw [if_neg h]; simp only [h,false_and]
theorem zbwg (t sz bytes tok:Nat) (l xs:List TV):apK t sz bytes (.sla tok l) (some xs) d K fr tk τ = apT (tk[tok]?) t sz bytes tok l xs d K fr tk τ:=by
 simp only [apK,zbm3,apT]
 by_cases h:xs.all (fun e => e.cells.length == sz && e.pure) = true ∧ xs.length * bytes ≤ 140737488355328 ∧ xs.length ≤ maxLen
 · rw [if_pos h]
   cases tk[tok]? with
   | none => rfl
   | some o =>
    cases o with
    | none => rfl
    | some p =>
     obtain ⟨n,t'⟩:=p
     simp only
     by_cases h2:n = l.length ∧ (n = 0 ∨ t' = t) ∧ (l.all (fun e => e.cells.length == sz) = true) ∧ (l.length + xs.length) * bytes ≤ 140737488355328 ∧ l.length + xs.length ≤ maxLen
     · rw [if_pos h2]; exact propext ⟨fun q => ⟨⟨h,h2⟩,q⟩,fun q => q.2⟩
     · rw [if_neg h2]; simp only [h2,and_false,false_and]
 · rw [if_neg h]
   cases tk[tok]? with
   | none => rfl
   | some o =>
    cases o with
    | none => rfl
    | some p => simp only [h,false_and]
theorem zcoy (n t' t sz bytes tok:Nat) (l xs:List TV):apT (some (some (n,t'))) t sz bytes tok l xs d K fr tk τ = (((xs.all (fun e => e.cells.length == sz && e.pure) = true ∧ xs.length * bytes ≤ 140737488355328 ∧ xs.length ≤ maxLen) ∧ n = l.length ∧ (n = 0 ∨ t' = t) ∧ (l.all (fun e => e.cells.length == sz) = true) ∧ (l.length + xs.length) * bytes ≤ 140737488355328 ∧ l.length + xs.length ≤ maxLen) ∧ K (fp fr d (.sla tok (l ++ xs))) (tk.set tok (some (l.length + xs.length,t))) τ):=rfl
def apB (o:Option (Option (Nat × TypeId))) (t sz bytes tok t0:Nat) (xs:List TV) (d:Option Nat) (K:ap) (fr:TF) (tk:TK) (τ:TH):Prop:=match o with
 | some (some (n,t')) => ((xs.all (fun e => e.cells.length == sz && e.pure) = true ∧ xs.length * bytes ≤ 140737488355328 ∧ xs.length ≤ maxLen) ∧ n = 0 ∧ t0 = t ∧ sz = 1 ∧ xs ≠ []) ∧
  K (fp fr d (.sla tok xs)) (tk.set tok (some (xs.length,t))) τ
 | _ => False
theorem zbwf (t sz bytes tok t0:Nat) (xs:List TV):apK t sz bytes (.slb tok t0) (some xs) d K fr tk τ = apB (tk[tok]?) t sz bytes tok t0 xs d K fr tk τ:=by
 simp only [apK,zbm3,apB]
 by_cases h:xs.all (fun e => e.cells.length == sz && e.pure) = true ∧ xs.length * bytes ≤ 140737488355328 ∧ xs.length ≤ maxLen
 · rw [if_pos h]
   cases tk[tok]? with
   | none => rfl
   | some o =>
    cases o with
    | none => rfl
    | some p =>
     obtain ⟨n,t'⟩:=p
     simp only
     by_cases h2:n = 0 ∧ t0 = t ∧ sz = 1 ∧ xs ≠ []
     · rw [if_pos h2]; exact propext ⟨fun q => ⟨⟨h,h2⟩,q⟩,fun q => q.2⟩
     · rw [if_neg h2]; simp only [h2,and_false,false_and]
 · rw [if_neg h]
   cases tk[tok]? with
   | none => rfl
   | some o =>
    cases o with
    | none => rfl
    | some p => simp only [h,false_and]
theorem zcox (n t' t sz bytes tok t0:Nat) (xs:List TV):apB (some (some (n,t'))) t sz bytes tok t0 xs d K fr tk τ = (((xs.all (fun e => e.cells.length == sz && e.pure) = true ∧ xs.length * bytes ≤ 140737488355328 ∧ xs.length ≤ maxLen) ∧ n = 0 ∧ t0 = t ∧ sz = 1 ∧ xs ≠ []) ∧ K (fp fr d (.sla tok xs)) (tk.set tok (some (xs.length,t))) τ):=rfl
def asK (t:Nat) (s x:TV) (d:Option Nat) (K:ap) (fr:TF) (tk:TK) (τ:TH):Prop:=match x with | .str b => apK t 1 1 s (some (dd b)) d K fr tk τ | _ => False
theorem zcrm (t:Nat) (s x:Operand):tG Γ dr (.appendS t s x) m d K fr tk τ = asK t (tO fr s) (tO fr x) d K fr tk τ:=by
 simp only [tG,tOp,asK,apK]
 cases tO fr x with
 | str b => simp only; cases zbm3 t 1 1 (tO fr s) (dd b) tk <;> rfl
 | _ => rfl
theorem zcc3 (t:Nat) (s:TV) (b:ByteArray):asK t s (.str b) d K fr tk τ = apK t 1 1 s (some (dd b)) d K fr tk τ:=rfl
def tbA (t:Nat) (x:TV) (d:Option Nat) (K:ap) (fr:TF) (tk:TK) (τ:TH):Prop:=match x with | .str s => K (fp fr d (if s.size = 0 then .slb tk.length t else .sla tk.length (dd s))) (tk ++ [some (s.size,t)]) τ | _ => False
theorem zctv (t:Nat) (x:Operand):tG Γ dr (.toBytes t x) 2 d K fr tk τ = tbA t (tO fr x) d K fr tk τ:=by
 simp only [tG,tOp,tbA]
 cases tO fr x <;> rfl
theorem zcbd (t:Nat) (s:ByteArray):tbA t (.str s) d K fr tk τ = K (fp fr d (if s.size = 0 then .slb tk.length t else .sla tk.length (dd s))) (tk ++ [some (s.size,t)]) τ:=rfl
theorem zcdh (t:Nat):tO fr (.tmp t) = lkp fr t:=rfl
theorem zb23 (k:IntKind) (n:Int):tO fr (.const (.int k n)) = .int k n:=rfl
theorem zbwy (c:Bool):tO fr (.const (.bool c)) = .bool c:=rfl
theorem zb22 (s:ByteArray):tO fr (.const (.string s)) = .str s:=rfl
theorem zbwv:tO fr (.const (.slice none 0 0)) = .slz:=rfl
theorem zbwx:tO fr (.const .nilFunc) = .nilF:=rfl
theorem zbww:tO fr (.const .nilIface) = .nilI:=rfl
theorem zb21 (f:FuncId):tO fr (.func f) = .func f [] []:=rfl
theorem zb24 (cs:List Value):tO fr (.const (.agg cs.toArray)) = .agg (cs.map ofS):=rfl
theorem zbt2 (k:IntKind) (n:Int):ofS (.int k n) = .int k n:=rfl
theorem zcqm (c:Bool):ofS (.bool c) = .bool c:=rfl
theorem zbt1 (s:ByteArray):ofS (.string s) = .str s:=rfl
theorem zcpx:ofS (.pointer none) = .nilP:=rfl
theorem zcpy:ofS (.slice none 0 0) = .slz:=rfl
theorem zbug (t:Nat) (v:TV) (l:TF):lkp ((t,v) :: l) t = v:=by simp [lkp]
theorem zcpo (t k:Nat) (v:TV) (l:TF) (h:(t = k) = False):lkp ((k,v) :: l) t = lkp l t:=by simp [lkp,h]
theorem zcs6 (t:Nat) (v:TV):fp fr (some t) v = (t,v) :: fr:=rfl
theorem zctp (v:TV):fp fr none v = fr:=rfl
theorem zb1o:sel lv fr = lv.map fun t => (t,lkp fr t):=rfl
theorem zco1 (k:Nat):zbxq k [] = []:=rfl
theorem zcsb (k:Nat) (v:TV) (l:List TV):zbxq k (v :: l) = (k,v) :: zbxq (k + 1) l:=rfl
end
theorem zcuh  (b:Bool):TV.cells  (TV.bool b) = [TV.bool b]:=rfl
theorem zcr4  (k:IntKind) (n:Int):TV.cells  (TV.int k n) = [TV.int k n]:=rfl
theorem zcr8  (s:ByteArray):TV.cells  (TV.str s) = [TV.str s]:=rfl
theorem zcr7  :TV.cells  TV.slz = [TV.slz ]:=rfl
theorem zcou  (l:List TV):TV.cells  (TV.sl l) = [TV.sl l]:=rfl
theorem zcr5  (k:Nat) (l:List TV):TV.cells  (TV.sla k l) = [TV.sla k l]:=rfl
theorem zcr6  (id off n sz:Nat):TV.cells  (TV.slm id off n sz) = [TV.slm id off n sz]:=rfl
theorem zcuj  :TV.cells  TV.nilF = [TV.nilF ]:=rfl
theorem zcui  (f:FuncId) (a b:List TV):TV.cells  (TV.func f a b) = [TV.func f a b]:=rfl
theorem zcr3  (cs:List TV):TV.cells  (TV.agg cs) = cs:=rfl
theorem zcpz  (b:Bool):TV.one  (TV.bool b) = true:=rfl
theorem zbtu  (k:IntKind) (n:Int):TV.one  (TV.int k n) = true:=rfl
theorem zbtq  (s:ByteArray):TV.one  (TV.str s) = true:=rfl
theorem zcp2  :TV.one  TV.nilP = true:=rfl
theorem zbtr  :TV.one  TV.slz = true:=rfl
theorem zb13  (l:List TV):TV.one  (TV.sl l) = true:=rfl
theorem zbts  (t:TypeId) (l:List TV):TV.one  (TV.slo t l) = true:=rfl
theorem zbtt  (id off n sz:Nat):TV.one  (TV.slm id off n sz) = true:=rfl
theorem zcp1  :TV.one  TV.nilF = true:=rfl
theorem zcp0  (f:FuncId) (a b:List TV):TV.one  (TV.func f a b) = true:=rfl
theorem zcsz  (k:IntKind) (n:Int):TV.known  (TV.int k n) = true:=rfl
theorem zcs1  (s:ByteArray):TV.known  (TV.str s) = true:=rfl
theorem zcpg  (l:List TV):TV.known  (TV.sl l) = true:=rfl
theorem zcs0  (k:Nat) (l:List TV):TV.known  (TV.sla k l) = true:=rfl
theorem zcrz  (b:Bool):TV.canS  (TV.bool b) = TV.bool b:=rfl
theorem zcoi  (k:IntKind) (n:Int):TV.canS  (TV.int k n) = TV.int k n:=rfl
theorem zcom  (s:ByteArray):TV.canS  (TV.str s) = TV.str s:=rfl
theorem zcoj  (id off:Nat):TV.canS  (TV.ptr id off) = TV.ptr id off:=rfl
theorem zcol  :TV.canS  TV.slz = .sl []:=rfl
theorem zbvt  (l:List TV):TV.canS  (TV.sl l) = TV.sl l:=rfl
theorem zcok  (id off n sz:Nat):TV.canS  (TV.slm id off n sz) = TV.slm id off n sz:=rfl
theorem zcog  (k:IntKind) (n:Int):TV.canA  (TV.int k n) = TV.int k n:=rfl
theorem zcoh  (s:ByteArray):TV.canA  (TV.str s) = TV.str s:=rfl
theorem zcry  :TV.canA  TV.nilI = TV.nilI :=rfl
theorem zcof  (cs:List TV):TV.canA  (TV.agg cs) = .agg (cs.map TV.canS):=rfl
theorem zcr0  (b:Bool):TV.canT  (TV.bool b) = TV.bool b:=rfl
theorem zcoo  (k:IntKind) (n:Int):TV.canT  (TV.int k n) = TV.int k n:=rfl
theorem zcor  (s:ByteArray):TV.canT  (TV.str s) = TV.str s:=rfl
theorem zcop  (id off:Nat):TV.canT  (TV.ptr id off) = TV.ptr id off:=rfl
theorem zbvs  (l:List TV):TV.canT  (TV.sl l) = TV.sl l:=rfl
theorem zcoq  (k:Nat) (l:List TV):TV.canT  (TV.sla k l) = .sl l:=rfl
theorem zcr1  (f:FuncId) (a b:List TV):TV.canT  (TV.func f a b) = TV.func f a b:=rfl
theorem zcr2  :TV.canT  TV.nilI = TV.nilI :=rfl
theorem zcon  (cs:List TV):TV.canT  (TV.agg cs) = .agg (cs.map TV.canS):=rfl
theorem zcos  (cs:List TV):TV.canT  (TV.tup cs) = .tup (cs.map TV.canA):=rfl
theorem zcp3  (k:IntKind) (n:Int):TV.part  (TV.int k n) = TV.int k n:=rfl
theorem zcp5  (s:ByteArray):TV.part  (TV.str s) = TV.str s:=rfl
theorem zbtn  (l:List TV):TV.part  (TV.sl l) = TV.sl l:=rfl
theorem zcp4  (k:Nat) (l:List TV):TV.part  (TV.sla k l) = .sl l:=rfl
theorem zcqa  (b:Bool):TV.put  (TV.bool b) = TV.bool b:=rfl
theorem zbtj  (k:IntKind) (n:Int):TV.put  (TV.int k n) = TV.int k n:=rfl
theorem zbtf  (s:ByteArray):TV.put  (TV.str s) = TV.str s:=rfl
theorem zcqd  :TV.put  TV.nilP = TV.nilP :=rfl
theorem zbtg  :TV.put  TV.slz = TV.slz :=rfl
theorem zb1z  (l:List TV):TV.put  (TV.sl l) = TV.sl l:=rfl
theorem zbti  (k:Nat) (l:List TV):TV.put  (TV.sla k l) = .sl l:=rfl
theorem zbth  (id off n sz:Nat):TV.put  (TV.slm id off n sz) = TV.slm id off n sz:=rfl
theorem zcqc  :TV.put  TV.nilF = TV.nilF :=rfl
theorem zcqb  (f:FuncId) (a b:List TV):TV.put  (TV.func f a b) = TV.func f a b:=rfl
theorem zbs8  (b:Bool):TV.rd  (TV.bool b) = TV.bool b:=rfl
theorem zb1x  (k:IntKind) (n:Int):TV.rd  (TV.int k n) = TV.int k n:=rfl
theorem zb1t  (s:ByteArray):TV.rd  (TV.str s) = TV.str s:=rfl
theorem zb1u  :TV.rd  TV.slz = TV.slz :=rfl
theorem zcbu  (l:List TV):TV.rd  (TV.sl l) = TV.sl l:=rfl
theorem zb1v  (t:TypeId) (l:List TV):TV.rd  (TV.slo t l) = .sl l:=rfl
theorem zb1w  (id off n sz:Nat):TV.rd  (TV.slm id off n sz) = TV.slm id off n sz:=rfl
theorem zbs7  (f:FuncId) (a b:List TV):TV.rd  (TV.func f a b) = TV.func f a b:=rfl
theorem zbuh  (l:List TV):TV.list  (TV.sl l) = some l:=rfl
theorem zcua  (b:Bool):TV.pureS  (TV.bool b) = true:=rfl
theorem zcso  (k:IntKind) (n:Int):TV.pureS  (TV.int k n) = true:=rfl
theorem zcsp  (s:ByteArray):TV.pureS  (TV.str s) = true:=rfl
theorem zcp6  (l:List TV):TV.pureS  (TV.sl l) = true:=rfl
theorem zcp8  (k:IntKind) (n:Int):TV.pure  (TV.int k n) = true:=rfl
theorem zcp9  (s:ByteArray):TV.pure  (TV.str s) = true:=rfl
theorem zcp7  (cs:List TV):TV.pure  (TV.agg cs) = cs.all TV.pureS:=rfl
theorem zcuw (n:Nat) (b:Bool):TV.under n (TV.bool b) = true:=by simp [TV.under]
theorem zbud (n m:Nat) (b:Bool):TV.lt n m (TV.bool b) = true:=by simp [TV.lt]
theorem zcs9 (n:Nat) (k:IntKind) (q:Int):TV.under n (TV.int k q) = true:=by simp [TV.under]
theorem zb2e (n m:Nat) (k:IntKind) (q:Int):TV.lt n m (TV.int k q) = true:=by simp [TV.lt]
theorem zcte (n:Nat) (s:ByteArray):TV.under n (TV.str s) = true:=by simp [TV.under]
theorem zb18 (n m:Nat) (s:ByteArray):TV.lt n m (TV.str s) = true:=by simp [TV.lt]
theorem zcum (n:Nat) :TV.under n TV.nilP = true:=by simp [TV.under]
theorem zcta (n:Nat) (id off:Nat):TV.under n (TV.ptr id off) = decide (id < n):=by simp [TV.under]
theorem zb2d (n m:Nat) (id off:Nat):TV.lt n m (TV.ptr id off) = decide (id < n):=by simp [TV.lt]
theorem zctd (n:Nat) :TV.under n TV.slz = true:=by simp [TV.under]
theorem zb19 (n m:Nat) :TV.lt n m TV.slz = true:=by simp [TV.lt]
theorem zcrh (n:Nat) (l:List TV):TV.under n (TV.sl l) = true:=by simp [TV.under]
theorem zcb8 (n m:Nat) (l:List TV):TV.lt n m (TV.sl l) = true:=by simp [TV.lt]
theorem zb2c (n m:Nat) (k:Nat) (l:List TV):TV.lt n m (TV.sla k l) = decide (k < m):=by simp [TV.lt]
theorem zb2b (n m:Nat) (k:Nat) (t:TypeId):TV.lt n m (TV.slb k t) = decide (k < m):=by simp [TV.lt]
theorem zctc (n:Nat) (t:TypeId) (l:List TV):TV.under n (TV.slo t l) = true:=by simp [TV.under]
theorem zctb (n:Nat) (id off q sz:Nat):TV.under n (TV.slm id off q sz) = decide (id < n):=by simp [TV.under]
theorem zb2a (n m:Nat) (id off q sz:Nat):TV.lt n m (TV.slm id off q sz) = decide (id < n):=by simp [TV.lt]
theorem zcuy (n:Nat) :TV.under n TV.nilF = true:=by simp [TV.under]
theorem zcux (n:Nat) (f:FuncId) (a b:List TV):TV.under n (TV.func f a b) = (ju n a && ju n b):=by simp [TV.under]
theorem zbuc (n m:Nat) (f:FuncId) (a b:List TV):TV.lt n m (TV.func f a b) = (ltL n m a && ltL n m b):=by simp [TV.lt]
theorem zcuz (n:Nat) :TV.under n TV.nilI = true:=by simp [TV.under]
theorem zcs8 (n:Nat) (cs:List TV):TV.under n (TV.agg cs) = ju n cs:=by simp [TV.under]
theorem zb2f (n m:Nat) (cs:List TV):TV.lt n m (TV.agg cs) = ltL n m cs:=by simp [TV.lt]
theorem zctf (n:Nat) (cs:List TV):TV.under n (TV.tup cs) = ju n cs:=by simp [TV.under]
theorem zcuv (n:Nat):ju n [] = true:=by simp [ju]
theorem zc8u (n:Nat) (v:TV) (l:List TV):ju n (v :: l) = (v.under n && ju n l):=by simp [ju]
theorem zbue (n m:Nat):ltL n m [] = true:=by simp [ltL]
theorem zcpq (n m:Nat) (v:TV) (l:List TV):ltL n m (v :: l) = (v.lt n m && ltL n m l):=by simp [ltL]
theorem mo {Γ:FuncId → Option TG} {lv:List Nat} {a:TC} {Q:TEx → ap} {fr:TF} {tk:TK} {τ:TH} (h:∀ LQ:TEx → ap,(∀ fr' tk' τ',LQ .normal fr' tk' τ' = zb2r lv tk τ fr' tk' τ' (tW Γ (.loop lv a) Q)) → (LQ .ret = Q .ret) → (∀ id,LQ (.exit id) = Q (.exit id)) → tW Γ a LQ (sel lv fr) tk τ):tW Γ (.loop lv a) Q fr tk τ:=by
 rw [zb46]
 exact h _ (fun fr' tk' τ' => zb5z Γ fr' tk tk' τ τ' a lv Q) rfl fun _ => rfl
def zbpy:List (Nat × TG) → FuncId → Option TG
 | [],_ => none
 | (k,g) :: r,f => if f = k then some g else zbpy r f
def zb82 (P:Program) (l:List (Nat × TG)):Prop:=∀ p ∈ l,match p.2 with
 | .code fn => ∃ H,th P H p.1 = some (fn.n,fn.c.erase,fn.rs)
 | .prim g => ∀ args τ r τ',g args τ = some (r,τ') → zbxs P p.1 args τ r τ'
theorem zb6a {P:Program}:zb82 P []:=fun p hp => by simp at hp
theorem aw {P:Program} {H:List (Nat × DH)} {f n:Nat} {c:TC} {rs:List R} {fz:Bool} (h:th P H f = some (n,c.erase,rs)) {l:List (Nat × TG)} (k:zb82 P l):zb82 P ((f,.code ⟨n,c,rs,fz⟩) :: l):=fun p hp => by
 rcases List.mem_cons.1 hp with rfl | hp
 · exact ⟨H,h⟩
 · exact k p hp
theorem zcav {P:Program} {f:Nat} {g:List TV → TH → Option (TV × TH)} (h:∀ args τ r τ',g args τ = some (r,τ') → zbxs P f args τ r τ') {l:List (Nat × TG)} (k:zb82 P l):zb82 P ((f,.prim g) :: l):=fun p hp => by
 rcases List.mem_cons.1 hp with rfl | hp
 · exact h
 · exact k p hp
theorem zcsg:∀ {l:List (Nat × TG)} {f:Nat} {g:TG},zbpy l f = some g → (f,g) ∈ l
 | [],_,_,h => by cases h
 | (k,g) :: r,f,g',h => by
  simp only [zbpy] at h
  split at h
  · rename_i e; injection h with h; subst e h; simp
  · exact List.mem_cons_of_mem _ (zcsg h)
theorem zbzd {P:Program} {l:List (Nat × TG)} (h:zb82 P l):GOK P (zbpy l):=fun f => by
 cases hq:zbpy l f with
 | none => trivial
 | some g =>
  have:=h _ (zcsg hq)
  cases g with
  | code fn => exact this
  | prim g => exact this
section
variable (τ:TH) (b c:Ob) (id k n:Nat)
def zb6y (o:Option Ob) (off:Nat):Option TV:=match o with | some b => (b.cs[off]?).map TV.rd | none => none
def zcm6 (o:Option Ob) (off n:Nat):Option (List TV):=match o with | some b => if off + n ≤ b.cs.length then some (((b.cs.drop off).take n).map TV.rd) else none | none => none
theorem zcq2 (off:Nat):zb3l τ id off = zb6y (τ.at id) off:=by unfold zb3l zb6y; cases τ.at id <;> rfl
theorem zbrl (off:Nat):sa τ id off n = zcm6 (τ.at id) off n:=by unfold sa zcm6; cases τ.at id <;> rfl
theorem zcug (t:TypeId) (cs:List TV) (off:Nat):zb6y (some ⟨t,cs⟩) off = (cs[off]?).map TV.rd:=rfl
theorem zcst (t:TypeId) (cs:List TV) (off:Nat):zcm6 (some ⟨t,cs⟩) off n = if off + n ≤ cs.length then some (((cs.drop off).take n).map TV.rd) else none:=rfl
theorem zcty (h:id = τ.next):(τ.push b).at id = some b:=by subst h; exact zce9
theorem zcsc (h:id < τ.next):(τ.push b).at id = τ.at id:=zb73 h
theorem ak:(τ.push b).next = τ.next + 1:=jm
theorem aa:(τ.put id b).next = τ.next:=br
theorem ww:(τ.locked n).at id = τ.at id:=rfl
theorem aq:(τ.push b).lock = τ.lock:=rfl
theorem ag:(τ.put id b).lock = τ.lock:=rfl
theorem zcc2 (h:id < τ.next):(τ.put id b).at id = some b:=zb78 h
theorem zco3 (h:(k = id) = False):(τ.put id b).at k = τ.at k:=zb72 (by simpa using h)
theorem rf:(τ.put id b).put id c = τ.put id c:=by simp [TH.put]
theorem zcsm (h:id = τ.next):(τ.push b).put id c = τ.push c:=by subst h; simp [TH.put,TH.push,TH.next,List.set_append_right]
theorem zcsn (h:id < τ.next):(τ.push b).put id c = (τ.put id c).push b:=by simp only [TH.put,TH.push,TH.next] at *; rw [List.set_append_left _ _ h]
theorem zcps (h:n ≤ τ.next):(τ.push b).cut n = τ.cut n:=by simp only [TH.cut,TH.push,TH.next] at *; rw [List.take_append_of_le_length h]
theorem fx (h:τ.next ≤ n):τ.cut n = τ:=zcd6 h
end
section
variable (k:IntKind) (x y:Int) (s u:ByteArray)
theorem zb1f:a7 .add (.int k x) (.int k y) = some (.int k (k.wrap (x + y))):=by simp [a7,dx,n7,ofS]
theorem zb01:a7 .sub (.int k x) (.int k y) = some (.int k (k.wrap (x - y))):=by simp [a7,dx,n7,ofS]
theorem zb07:a7 .mul (.int k x) (.int k y) = some (.int k (k.wrap (x * y))):=by simp [a7,dx,n7,ofS]
theorem zb1e:a7 .and (.int k x) (.int k y) = some (.int k (k.wrap (BitVec.ofInt k.bits x &&& BitVec.ofInt k.bits y).toNat)):=by simp [a7,dx,n7,ofS]
theorem zca9:a7 .or (.int k x) (.int k y) = some (.int k (k.wrap (BitVec.ofInt k.bits x ||| BitVec.ofInt k.bits y).toNat)):=by simp [a7,dx,n7,ofS]
theorem zb00:a7 .xor (.int k x) (.int k y) = some (.int k (k.wrap (BitVec.ofInt k.bits x ^^^ BitVec.ofInt k.bits y).toNat)):=by simp [a7,dx,n7,ofS]
theorem zb08:a7 .lss (.int k x) (.int k y) = some (.bool (decide (x < y))):=by simp [a7,dx,n7,ofS]
theorem zb09:a7 .leq (.int k x) (.int k y) = some (.bool (decide (x ≤ y))):=by simp [a7,dx,n7,ofS]
theorem zb1a:a7 .gtr (.int k x) (.int k y) = some (.bool (decide (y < x))):=by simp [a7,dx,n7,ofS]
theorem zb1b:a7 .geq (.int k x) (.int k y) = some (.bool (decide (y ≤ x))):=by simp [a7,dx,n7,ofS]
theorem zb1c:a7 .eql (.int k x) (.int k y) = some (.bool (decide (x = y))):=by simp [a7,dx,n7,ofS]; rfl
theorem zb06:a7 .neq (.int k x) (.int k y) = some (.bool (decide (¬ x = y))):=by simp [a7,dx,n7,ofS]; rfl
theorem zb05:a7 .quo (.int k x) (.int k y) = if y = 0 then none else some (.int k (k.wrap (x.tdiv y))):=by simp [a7,dx,n7,ofS]; split <;> simp [ofS]
theorem zb04:a7 .rem (.int k x) (.int k y) = if y = 0 then none else some (.int k (x.tmod y)):=by simp [a7,dx,n7,ofS]; split <;> simp [ofS]
theorem zb03 (j:IntKind):a7 .shl (.int k x) (.int j y) = if y < 0 then none else some (.int k (k.wrap (x * 2 ^ (Nat.min y.toNat k.bits)))):=by simp [a7,dx,zb4k,ofS]; split <;> simp [ofS]
theorem zb02 (j:IntKind):a7 .shr (.int k x) (.int j y) = if y < 0 then none else some (.int k (x.fdiv (2 ^ (Nat.min y.toNat k.bits)))):=by simp [a7,dx,zb4k,ofS]; split <;> simp [ofS]
theorem zb1d:a7 .add (.str s) (.str u) = if 9223372036854775807 < ((s.size + u.size:Nat):Int) then none else some (.str (s ++ u)):=by
 have e:IntKind.i64.max = 9223372036854775807:=by decide
 simp only [a7,zbsq,e]
 split
 · rfl
 · rfl
theorem zc8k {s u:ByteArray}:s.toList = u.toList ↔ s = u:=by
 constructor
 · intro h
   rw [ByteArray.toList_eq,ByteArray.toList_eq] at h
   cases s; cases u; simp_all
 · rintro rfl; rfl
theorem zbr2:a7 .eql (.str s) (.str u) = some (.bool (decide (s = u))):=by simp only [a7,zbsq,Option.map_some,ofS]; congr 2; by_cases h:s = u <;> simp [h,zc8k]
theorem zbr1:a7 .neq (.str s) (.str u) = some (.bool (decide (¬ s = u))):=by simp only [a7,zbsq,Option.map_some,ofS]; congr 2; by_cases h:s = u <;> simp [h,zc8k]
theorem zb0t (b:Bool):tun .not (.bool b) = some (.bool !b):=rfl
def zcgw (k:IntKind) (x:Int):Int:=k.wrap (BitVec.ofInt k.bits (if k.signed then -1 else k.max) ^^^ BitVec.ofInt k.bits x).toNat
theorem zb0s:tun .xor (.int k x) = some (.int k (zcgw k x)):=rfl
theorem zb0u:tun .neg (.int k x) = some (.int k (k.wrap (0 - x))):=rfl
end
theorem zc8b (c:Prop) [Decidable c] (v:TV) (d:Option Nat) (K:ap) (fr:TF) (tk:TK) (τ:TH):pK (if c then none else some v) d K fr tk τ = (¬ c ∧ K (fp fr d v) tk τ):=by unfold pK; by_cases h:c <;> simp [h]
theorem zbua {g n k:Nat} (h:g < n):(g < n + k) = True:=by simp; omega
theorem zbun {g n k:Nat} (h:g ≤ n):(g ≤ n + k) = True:=by simp; omega
theorem zbt9 (n k:Nat):(n < n + k) = (0 < k):=by simp
theorem zbub (n j k:Nat):(n + j < n + k) = (j < k):=by simp
theorem zbum (n k:Nat):(n ≤ n + k) = True:=by simp
theorem zbvi (n j k:Nat):(n + j = n + k) = (j = k):=by simp
theorem zc7i (n k:Nat):(n = n + k) = (k = 0):=by simp
theorem zc80 (n k:Nat):(n + k = n) = (k = 0):=by simp
theorem zc86 (n:Nat):(n < n) = False:=by simp
theorem zbwm (n j k:Nat):n + j + k = n + (j + k):=Nat.add_assoc n j k
theorem zcre (i o j p:Nat):TV.same (.ptr i o) (.ptr j p) = (i == j && o == p):=rfl
theorem zcrd (k j:IntKind) (n m:Int):TV.same (.int k n) (.int j m) = (decide (k = j) && decide (n = m)):=rfl
theorem zcqn (a b:ByteArray):TV.same (.str a) (.str b) = decide (a = b):=rfl
theorem zcsw (f g:FuncId) (a b c d:List TV):TV.same (.func f a b) (.func g c d) = (decide (f = g) && (zbxn a c && zbxn b d)):=rfl
theorem zcsv:zbxn [] [] = true:=rfl
theorem zcue (v w:TV) (r s:List TV):zbxn (v :: r) (w :: s) = (v.same w && zbxn r s):=rfl
theorem zcss (fr:TF) (τ:TH) (d:Nat) (i:I) (g:Option (Nat × Bool)):zceb ⟨some d,i,g⟩ fr τ = zcgs (zcap i fr τ) (lkp fr d):=rfl
theorem zcsq (fr:TF) (τ:TH) (x:Operand):zcap (.load1 x) fr τ = rdO (tO fr x) τ:=rfl
theorem zbs9 (τ:TH) (id off:Nat):rdO (.ptr id off) τ = rdB (τ.at id) off:=rfl
theorem zcqe (t:TypeId) (cs:List TV) (off:Nat):rdB (some ⟨t,cs⟩) off = (cs[off]?).map TV.rd:=rfl
theorem zcsu (v w:TV):zcgs (some v) w = v.same w:=rfl
theorem zcpu:decide True = true:=rfl
theorem zcpt:decide False = false:=rfl
theorem TT0:type_of% (ai (ai (ai @zb2y (ai @zb2z @zcdc)) (ai (ai @zcdd @ma) (ai @zcqy @zctl))) (ai (ai (ai @zbr4 @zcq0) (ai @zbr5 @zcqz)) (ai (ai @zbwr @zcdb) (ai @zb20 @zbwt)))):=(ai (ai (ai @zb2y (ai @zb2z @zcdc)) (ai (ai @zcdd @ma) (ai @zcqy @zctl))) (ai (ai (ai @zbr4 @zcq0) (ai @zbr5 @zcqz)) (ai (ai @zbwr @zcdb) (ai @zb20 @zbwt))))
theorem TT1:type_of% (ai (ai (ai @zbws (ai @zbvz @zbrq)) (ai @zbrp (ai @zbrr @zcoc))) (ai (ai @zcob (ai @zcrx @zcod)) (ai (ai @zbv8 @zb1q) (ai @zb1r @zbsx)))):=(ai (ai (ai @zbws (ai @zbvz @zbrq)) (ai @zbrp (ai @zbrr @zcoc))) (ai (ai @zcob (ai @zcrx @zcod)) (ai (ai @zbv8 @zb1q) (ai @zb1r @zbsx))))
theorem TT2:type_of% (ai (ai (ai @zco8 (ai @zcrb @zb0w)) (ai @zb0x (ai @zb0v @zdal))) (ai (ai @zcw5 (ai @zcul @zc8m)) (ai (ai @zcut @zbta) (ai @zb1i @zbsa)))):=(ai (ai (ai @zco8 (ai @zcrb @zb0w)) (ai @zb0x (ai @zb0v @zdal))) (ai (ai @zcw5 (ai @zcul @zc8m)) (ai (ai @zcut @zbta) (ai @zb1i @zbsa))))
theorem TT3:type_of% (ai (ai (ai @zbr9 (ai @zbsc @zcqu)) (ai @zcqv (ai @zccn @zccq))) (ai (ai @zcco (ai @zccp @zb3c)) (ai (ai @zcq5 @zcto) (ai @zcti @zbru)))):=(ai (ai (ai @zbr9 (ai @zbsc @zcqu)) (ai @zcqv (ai @zccn @zccq))) (ai (ai @zcco (ai @zccp @zb3c)) (ai (ai @zcq5 @zcto) (ai @zcti @zbru))))
theorem TT4:type_of% (ai (ai (ai @zcq6 @zcq7) (ai @zbrv @zbrt)) (ai (ai @zbw5 @zbw4) (ai @zcn5 @zbvk))):=(ai (ai (ai @zcq6 @zcq7) (ai @zbrv @zbrt)) (ai (ai @zbw5 @zbw4) (ai @zcn5 @zbvk)))
theorem TT5:type_of% (ai (ai (ai @zbto (ai @zb11 @zcdj)) (ai @zb27 (ai @zcqk @zb26))) (ai (ai @zbtm (ai @zbw3 @zbup)) (ai (ai @zcph @zbw1) (ai @zbuo @zcpi)))):=(ai (ai (ai @zbto (ai @zb11 @zcdj)) (ai @zb27 (ai @zcqk @zb26))) (ai (ai @zbtm (ai @zbw3 @zbup)) (ai (ai @zcph @zbw1) (ai @zbuo @zcpi))))
theorem TT6:type_of% (ai (ai @zcn8 @zcqj) (ai @zcdm (ai @zcdk @zb2o))):=(ai (ai @zcn8 @zcqj) (ai @zcdm (ai @zcdk @zb2o)))
theorem TT7:type_of% (ai (ai (ai @zdb8 @zb3b) (ai @zbvp (ai @zc7a @zbuk))) (ai (ai @zcpm (ai @zcq9 @zcsr)) (ai @zbs1 (ai @zbs2 @zbsy)))):=(ai (ai (ai @zdb8 @zb3b) (ai @zbvp (ai @zc7a @zbuk))) (ai (ai @zcpm (ai @zcq9 @zcsr)) (ai @zbs1 (ai @zbs2 @zbsy))))
theorem TT8:type_of% (ai (ai @zbsz (ai @zb1s @zbs0)) (ai @zbs3 (ai @zbvf @zco6))):=(ai (ai @zbsz (ai @zb1s @zbs0)) (ai @zbs3 (ai @zbvf @zco6)))
theorem TT9:type_of% (ai (ai (ai @zcn6 (ai @zbve @zcts)) (ai @zbux (ai @zcro @zb2h))) (ai (ai @zbuw (ai @zctt @zcci)) (ai @zctu (ai @zcbj @zcrs)))):=(ai (ai (ai @zcn6 (ai @zbve @zcts)) (ai @zbux (ai @zcro @zb2h))) (ai (ai @zbuw (ai @zctt @zcci)) (ai @zctu (ai @zcbj @zcrs))))
theorem zdb6:type_of% (ai (ai (ai @zb1n (ai @zbsk @zcbb)) (ai @zcba (ai @zcbc @zbt7))) (ai (ai @zb29 (ai @zb2g @zb3a)) (ai (ai @zcpk @zbul) (ai @zcpj @zcpl)))):=(ai (ai (ai @zb1n (ai @zbsk @zcbb)) (ai @zcba (ai @zcbc @zbt7))) (ai (ai @zb29 (ai @zb2g @zb3a)) (ai (ai @zcpk @zbul) (ai @zcpj @zcpl))))
theorem zdb5:type_of% (ai (ai (ai @zcn7 @zbw6) (ai @zctn (ai @zcus @zchy))) (ai (ai @zcl3 @zbwz) (ai @zcrv (ai @zctq @zcqr)))):=(ai (ai (ai @zcn7 @zbw6) (ai @zctn (ai @zcus @zchy))) (ai (ai @zcl3 @zbwz) (ai @zcrv (ai @zctq @zcqr))))
theorem zdb4:type_of% (ai (ai (ai @zctr (ai @zcck @zcdl)) (ai @zbw0 (ai @zbsj @zcqp))) (ai (ai @zbw2 (ai @zbro @zcq8)) (ai @zcrj (ai @zcri @zcn9)))):=(ai (ai (ai @zctr (ai @zcck @zcdl)) (ai @zbw0 (ai @zbsj @zcqp))) (ai (ai @zbw2 (ai @zbro @zcq8)) (ai @zcrj (ai @zcri @zcn9))))
theorem zdb3:type_of% (ai (ai (ai (ai @zbsr @zcrc) (ai @zcrn @zcc1)) (ai (ai @zcc0 @zccz) (ai @zcur @zc8i))) (ai (ai (ai @zcrp @zcrq) (ai @zcrr @zcb4)) (ai (ai @zcb3 @zcn4) (ai @zcrk @zbwh)))):=(ai (ai (ai (ai @zbsr @zcrc) (ai @zcrn @zcc1)) (ai (ai @zcc0 @zccz) (ai @zcur @zc8i))) (ai (ai (ai @zcrp @zcrq) (ai @zcrr @zcb4)) (ai (ai @zcb3 @zcn4) (ai @zcrk @zbwh))))
theorem zdb2:type_of% (ai (ai (ai @zbwi (ai @zcow @zcrl)) (ai (ai @zbwa @zco2) (ai @zbwe @zbwg))) (ai (ai @zcoy (ai @zbwf @zcox)) (ai (ai @zcrm @zcc3) (ai @zctv @zcbd)))):=(ai (ai (ai @zbwi (ai @zcow @zcrl)) (ai (ai @zbwa @zco2) (ai @zbwe @zbwg))) (ai (ai @zcoy (ai @zbwf @zcox)) (ai (ai @zcrm @zcc3) (ai @zctv @zcbd))))
theorem zdb1:type_of% (ai (ai (ai @zcdh (ai @zb23 @zbwy)) (ai @zb22 (ai @zbwv @zbwx))) (ai (ai @zbww (ai @zb21 @zb24)) (ai (ai @zbt2 @zcqm) (ai @zbt1 @zcpx)))):=(ai (ai (ai @zcdh (ai @zb23 @zbwy)) (ai @zb22 (ai @zbwv @zbwx))) (ai (ai @zbww (ai @zb21 @zb24)) (ai (ai @zbt2 @zcqm) (ai @zbt1 @zcpx))))
theorem zdb0:type_of% (ai (ai (ai @zcpy @zbug) (ai @zcpo (ai @zcs6 @zctp))) (ai (ai @zb1o (ai @zco1 @zcsb)) (ai @zcuh (ai @zcr4 @zcr8)))):=(ai (ai (ai @zcpy @zbug) (ai @zcpo (ai @zcs6 @zctp))) (ai (ai @zb1o (ai @zco1 @zcsb)) (ai @zcuh (ai @zcr4 @zcr8))))
theorem zdbz:type_of% (ai (ai (ai @zcr7 @zcou) (ai @zcr5 @zcr6)) (ai (ai @zcuj @zcui) (ai @zcr3 @zcpz))):=(ai (ai (ai @zcr7 @zcou) (ai @zcr5 @zcr6)) (ai (ai @zcuj @zcui) (ai @zcr3 @zcpz)))
theorem zdby:type_of% (ai (ai (ai @zbtu @zbtq) (ai @zcp2 @zbtr)) (ai (ai @zb13 @zbts) (ai @zbtt (ai @zcp1 @zcp0)))):=(ai (ai (ai @zbtu @zbtq) (ai @zcp2 @zbtr)) (ai (ai @zb13 @zbts) (ai @zbtt (ai @zcp1 @zcp0))))
theorem zdbx:type_of% (ai (ai @zcsz @zcs1) (ai @zcpg @zcs0)):=(ai (ai @zcsz @zcs1) (ai @zcpg @zcs0))
theorem zdbw:type_of% (ai (ai @zcrz (ai @zcoi @zcom)) (ai @zcoj (ai @zcol @zbvt))):=(ai (ai @zcrz (ai @zcoi @zcom)) (ai @zcoj (ai @zcol @zbvt)))
theorem zdbv:type_of% (ai @zcok (ai @zcog @zcoh)):=(ai @zcok (ai @zcog @zcoh))
theorem zdbu:type_of% (ai (ai @zcry (ai @zcof @zcr0)) (ai @zcoo (ai @zcor @zcop))):=(ai (ai @zcry (ai @zcof @zcr0)) (ai @zcoo (ai @zcor @zcop)))
theorem zdbt:type_of% (ai (ai @zbvs (ai @zcoq @zcr1)) (ai (ai @zcr2 @zcon) (ai @zcos @zcp3))):=(ai (ai @zbvs (ai @zcoq @zcr1)) (ai (ai @zcr2 @zcon) (ai @zcos @zcp3)))
theorem zdbs:type_of% (ai @zcp5 (ai @zbtn @zcp4)):=(ai @zcp5 (ai @zbtn @zcp4))
theorem zdbr:type_of% (ai (ai (ai @zcqa @zbtj) (ai @zbtf (ai @zcqd @zbtg))) (ai (ai @zb1z @zbti) (ai @zbth (ai @zcqc @zcqb)))):=(ai (ai (ai @zcqa @zbtj) (ai @zbtf (ai @zcqd @zbtg))) (ai (ai @zb1z @zbti) (ai @zbth (ai @zcqc @zcqb))))
theorem zdbq:type_of% (ai (ai @zbs8 (ai @zb1x @zb1t)) (ai (ai @zb1u @zcbu) (ai @zb1v @zb1w))):=(ai (ai @zbs8 (ai @zb1x @zb1t)) (ai (ai @zb1u @zcbu) (ai @zb1v @zb1w)))
theorem zdbp:type_of% (ai (ai @zbs7 @zbuh) (ai @zcua (ai @zcso @zcsp))):=(ai (ai @zbs7 @zbuh) (ai @zcua (ai @zcso @zcsp)))
theorem zdbo:type_of% (ai @zcp6 (ai @zcp8 @zcp9)):=(ai @zcp6 (ai @zcp8 @zcp9))
theorem zdbn:type_of% (@zcp7):=(@zcp7)
theorem zdbm:type_of% (ai (ai (ai @zcuw (ai @zbud @zcs9)) (ai @zb2e (ai @zcte @zb18))) (ai (ai @zcum (ai @zcta @zb2d)) (ai (ai @zctd @zb19) (ai @zcrh @zcb8)))):=(ai (ai (ai @zcuw (ai @zbud @zcs9)) (ai @zb2e (ai @zcte @zb18))) (ai (ai @zcum (ai @zcta @zb2d)) (ai (ai @zctd @zb19) (ai @zcrh @zcb8))))
theorem zdbl:type_of% (ai (ai (ai @zb2c @zb2b) (ai @zctc @zctb)) (ai (ai @zb2a @zcuy) (ai @zcux (ai @zbuc @zcuz)))):=(ai (ai (ai @zb2c @zb2b) (ai @zctc @zctb)) (ai (ai @zb2a @zcuy) (ai @zcux (ai @zbuc @zcuz))))
theorem zdbk:type_of% (ai (ai (ai @zcs8 (ai @zb2f @zctf)) (ai (ai @zcuv @zc8u) (ai @zbue @zcpq))) (ai (ai @zcq2 (ai @zbrl @zcug)) (ai (ai @zcst @zcty) (ai @zcsc @ak)))):=(ai (ai (ai @zcs8 (ai @zb2f @zctf)) (ai (ai @zcuv @zc8u) (ai @zbue @zcpq))) (ai (ai @zcq2 (ai @zbrl @zcug)) (ai (ai @zcst @zcty) (ai @zcsc @ak))))
theorem zdbj:type_of% (ai (ai (ai @aa @aq) (ai @ag (ai @zcc2 @zco3))) (ai (ai @rf @zcsm) (ai @zcsn (ai @zcps @fx)))):=(ai (ai (ai @aa @aq) (ai @ag (ai @zcc2 @zco3))) (ai (ai @rf @zcsm) (ai @zcsn (ai @zcps @fx))))
theorem zdbi:type_of% (ai (ai (ai @zb1f (ai @zb01 @zb07)) (ai @zb1e (ai @zca9 @zb00))) (ai (ai @zb08 (ai @zb09 @zb1a)) (ai (ai @zb1b @zb1c) (ai @zb06 @zb05)))):=(ai (ai (ai @zb1f (ai @zb01 @zb07)) (ai @zb1e (ai @zca9 @zb00))) (ai (ai @zb08 (ai @zb09 @zb1a)) (ai (ai @zb1b @zb1c) (ai @zb06 @zb05))))
theorem zdbh:type_of% (ai (ai (ai @zb04 (ai @zb03 @zb02)) (ai (ai @zb1d @zbr2) (ai @zbr1 @zb0t))) (ai (ai (ai @zb0s @zb0u) (ai @zc8b @zbua)) (ai (ai @zbun @zbt9) (ai @zbub @zbum)))):=(ai (ai (ai @zb04 (ai @zb03 @zb02)) (ai (ai @zb1d @zbr2) (ai @zbr1 @zb0t))) (ai (ai (ai @zb0s @zb0u) (ai @zc8b @zbua)) (ai (ai @zbun @zbt9) (ai @zbub @zbum))))
theorem zdbg:type_of% (ai (ai (ai @zbvi (ai @zc7i @zc80)) (ai (ai @zc86 @zbwm) (ai @zcre @zcrd))) (ai (ai (ai @zcqn @zcsw) (ai @zcsv @zcue)) (ai (ai @zcss @zcsq) (ai @zbs9 @zcqe)))):=(ai (ai (ai @zbvi (ai @zc7i @zc80)) (ai (ai @zc86 @zbwm) (ai @zcre @zcrd))) (ai (ai (ai @zcqn @zcsw) (ai @zcsv @zcue)) (ai (ai @zcss @zcsq) (ai @zbs9 @zcqe))))
theorem zdbf:type_of% (ai (ai (ai @zcsu (ai @zcpu @zcpt)) (ai (ai @List.map_cons.{0,0} @List.map_nil.{0,0}) (ai @List.getElem?_cons_zero.{0} @List.getElem?_cons_succ.{0}))) (ai (ai @List.length_cons.{0} (ai @List.length_nil.{0} @List.drop_succ_cons.{0})) (ai (ai @List.drop_zero.{0} @List.take_succ_cons.{0}) (ai @List.take_zero.{0} @List.take_nil.{0})))):=(ai (ai (ai @zcsu (ai @zcpu @zcpt)) (ai (ai @List.map_cons.{0,0} @List.map_nil.{0,0}) (ai @List.getElem?_cons_zero.{0} @List.getElem?_cons_succ.{0}))) (ai (ai @List.length_cons.{0} (ai @List.length_nil.{0} @List.drop_succ_cons.{0})) (ai (ai @List.drop_zero.{0} @List.take_succ_cons.{0}) (ai @List.take_zero.{0} @List.take_nil.{0}))))
theorem zdbe:type_of% (ai (ai (ai (ai @List.take_length.{0} @List.set_cons_zero.{0}) (ai @List.set_cons_succ.{0} @Option.map_some.{0,0})) (ai (ai @Option.map_none.{0,0} @Option.bind_some.{0,0}) (ai @and_true @true_and))) (ai (ai (ai @Bool.not_true @Bool.not_false) (ai @List.all_cons.{0} @List.all_nil.{0})) (ai (ai @Bool.and_true @Bool.true_and) (ai @Bool.and_self @not_false_eq_true)))):=(ai (ai (ai (ai @List.take_length.{0} @List.set_cons_zero.{0}) (ai @List.set_cons_succ.{0} @Option.map_some.{0,0})) (ai (ai @Option.map_none.{0,0} @Option.bind_some.{0,0}) (ai @and_true @true_and))) (ai (ai (ai @Bool.not_true @Bool.not_false) (ai @List.all_cons.{0} @List.all_nil.{0})) (ai (ai @Bool.and_true @Bool.true_and) (ai @Bool.and_self @not_false_eq_true))))
theorem zdbd:type_of% (ai (ai (ai (ai @Nat.zero_add @Nat.le_refl) (ai @Nat.add_zero @Nat.zero_mul)) (ai (ai @Nat.mul_one @Nat.one_mul) (ai @Int.toNat_zero @Int.toNat_natCast))) (ai (ai (ai @List.nil_append.{0} @List.cons_append.{0}) (ai @List.append_nil.{0} @cond_true.{1})) (ai (ai @cond_false.{1} @if_true.{1}) (ai @if_false.{1} @List.length_map.{0,0})))):=(ai (ai (ai (ai @Nat.zero_add @Nat.le_refl) (ai @Nat.add_zero @Nat.zero_mul)) (ai (ai @Nat.mul_one @Nat.one_mul) (ai @Int.toNat_zero @Int.toNat_natCast))) (ai (ai (ai @List.nil_append.{0} @List.cons_append.{0}) (ai @List.append_nil.{0} @cond_true.{1})) (ai (ai @cond_false.{1} @if_true.{1}) (ai @if_false.{1} @List.length_map.{0,0}))))
theorem zdbc:type_of% (ai (ai (ai @List.length_append.{0} @not_true_eq_false) (ai @decide_eq_true_eq (ai @or_true @true_or))) (ai (ai @or_false @ne_eq.{1}) (ai @eq_self.{1} (ai @bne_self_eq_false.{0} @beq_self_eq_true.{0})))):=(ai (ai (ai @List.length_append.{0} @not_true_eq_false) (ai @decide_eq_true_eq (ai @or_true @true_or))) (ai (ai @or_false @ne_eq.{1}) (ai @eq_self.{1} (ai @bne_self_eq_false.{0} @beq_self_eq_true.{0}))))
theorem TT:type_of% (ai (ai (ai (ai (ai @TT0 @TT1) (ai @TT2 (ai @TT3 @TT4))) (ai (ai @TT5 @TT6) (ai @TT7 (ai @TT8 @TT9)))) (ai (ai (ai @zdb6 @zdb5) (ai @zdb4 (ai @zdb3 @zdb2))) (ai (ai @zdb1 @zdb0) (ai @zdbz (ai @zdby @zdbx))))) (ai (ai (ai (ai @zdbw @zdbv) (ai @zdbu (ai @zdbt @zdbs))) (ai (ai @zdbr @zdbq) (ai @zdbp (ai @zdbo @zdbn)))) (ai (ai (ai @zdbm @zdbl) (ai @zdbk (ai @zdbj @zdbi))) (ai (ai @zdbh (ai @zdbg @zdbf)) (ai @zdbe (ai @zdbd @zdbc)))))):=(ai (ai (ai (ai (ai @TT0 @TT1) (ai @TT2 (ai @TT3 @TT4))) (ai (ai @TT5 @TT6) (ai @TT7 (ai @TT8 @TT9)))) (ai (ai (ai @zdb6 @zdb5) (ai @zdb4 (ai @zdb3 @zdb2))) (ai (ai @zdb1 @zdb0) (ai @zdbz (ai @zdby @zdbx))))) (ai (ai (ai (ai @zdbw @zdbv) (ai @zdbu (ai @zdbt @zdbs))) (ai (ai @zdbr @zdbq) (ai @zdbp (ai @zdbo @zdbn)))) (ai (ai (ai @zdbm @zdbl) (ai @zdbk (ai @zdbj @zdbi))) (ai (ai @zdbh (ai @zdbg @zdbf)) (ai @zdbe (ai @zdbd @zdbc))))))
end Go.Proofs.Ytjgpklmkdkkooaa.Sh
