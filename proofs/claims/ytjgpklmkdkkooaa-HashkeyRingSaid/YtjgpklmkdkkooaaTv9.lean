import Derived.Test.YtjgpklmkdkkooaaTv8
set_option linter.unusedVariables false
set_option linter.unusedSimpArgs false
/- The tree level: evaluation, step by step: printed by a program of ours. -/
namespace Go.Proofs.Ytjgpklmkdkkooaa.Sh
open Go Go.RowKit
def pK (o : Option TV) (d : Option Nat) (K : ap) (fr : TF) (tk : TK) (τ : TH) : Prop:=match o with | some v => K (fp fr d v) tk τ | none => False
def zb1y (lv : List Nat) (tk : TK) (τ : TH) (fr' : TF) (tk' : TK) (τ' : TH) (K : ap) : Prop:=if ltL τ.next tk.length (lv.map fun t => lkp fr' t) = true then K (sel lv fr') (tk'.take tk.length) (τ'.cut τ.next) else K (sel lv fr') tk' τ'
def fzK (o : Option TV) (τ : TH) (K : TV → TH → Prop) (τ' : TH) : Prop:=match o with | some u => K u (τ'.cut τ.next) | none => False
def rtK (o : Option TV) (τ : TH) (K : TV → TH → Prop) (τ' : TH) : Prop:=match o with | some v => (if v.canT.under τ.next then K v.canT (τ'.cut τ.next) else v.canT.under τ'.next = true ∧ K v.canT τ') | none => False
def pl (l : List am) : List (am × List Nat):=l.map fun x => (x,[])
def tLD (Γ : FuncId → Option TG) : List am → ap → ap
 | [],K => K
 | ⟨⟨d,i,none⟩,m⟩ :: r,K => fun fr tk τ => tG Γ true i m d (tLD Γ r K) fr tk τ
 | ⟨⟨d,i,some (t,b)⟩,m⟩ :: r,K => fun fr tk τ => gdK Γ true (lkp fr t) b i m d (tLD Γ r K) fr tk τ
section
variable (Γ : FuncId → Option TG) (dr : Bool) (d : Option Nat) (K : ap) (fr fr' : TF) (tk tk' : TK) (τ τ' : TH) (Q : TEx → ap) (a b : TC) (lv : List Nat) (r : List am) (m : Nat)
theorem zb4j : ∀ (l : List am) (n : Nat) (told : List (Nat × Ins)) (K : ap),tD Γ n (pl l) K told = tLD Γ l K
 | [],n,told,K => rfl
 | ⟨⟨d,i,g⟩,m⟩ :: r,n,told,K => by
  funext fr tk τ
  cases g with
  | none =>
   show tG Γ true i m d (pnK _ n fr τ told [] (tD Γ (n + 1) (pl r) K)) fr tk τ = tG Γ true i m d (tLD Γ r K) fr tk τ
   have q : pnK ⟨⟨d,i,none⟩,m⟩ n fr τ told [] (tD Γ (n + 1) (pl r) K) = tLD Γ r K:=by
    funext fr' tk' τ'
    unfold pnK
    simp [zb4j r]
   rw [q]
  | some tb =>
   obtain ⟨t,b⟩:=tb
   show gdK Γ true (lkp fr t) b i m d (pnK _ n fr τ told [] (tD Γ (n + 1) (pl r) K)) fr tk τ = gdK Γ true (lkp fr t) b i m d (tLD Γ r K) fr tk τ
   have q : pnK ⟨⟨d,i,some (t,b)⟩,m⟩ n fr τ told [] (tD Γ (n + 1) (pl r) K) = tLD Γ r K:=by
    funext fr' tk' τ'
    unfold pnK
    simp [zb4j r]
   rw [q]
def tSp (Γ : FuncId → Option TG) (o : Option am) (K : ap) : ap:=fun fr tk τ => match o with
 | some ⟨⟨d,i,none⟩,m⟩ => tG Γ true i m d K fr tk τ
 | some ⟨⟨d,i,some (t,b)⟩,m⟩ => gdK Γ true (lkp fr t) b i m d K fr tk τ
 | none => False
def tTp (Γ : FuncId → Option TG) (lv : List Nat) (l : List am) : DTr Nat → ap → ap
 | .nil,K => K
 | .cons k r,K => tSp Γ l[k]? (tTp Γ lv l r K)
 | .alt k r j q,K => fun fr tk τ => tSp Γ l[k]? (tTp Γ lv l r fun fr1 tk1 τ1 => tSp Γ l[j]? (tTp Γ lv l q fun fr2 tk2 τ2 => (sel lv fr1 = sel lv fr2 ∧ tk1 = tk2 ∧ τ1 = τ2) ∧ K fr1 tk1 τ1) fr tk τ) fr tk τ
theorem zb4g (l : List am) (k : Nat) (told : List (Nat × Ins)) (K : ap) (K' : List (Nat × Ins) → ap) (hK : ∀ t,K' t = K) : tS Γ (pl l) (pl l)[k]? k told K' = tSp Γ l[k]? K:=by
 have e : (pl l)[k]? = (l[k]?).map fun x => (x,[]):=by unfold pl; rw [List.getElem?_map]
 rw [e]
 generalize pl l = L
 funext fr tk τ
 cases l[k]? with
 | none => rfl
 | some x =>
  obtain ⟨⟨d,i,g⟩,m⟩:=x
  cases g with
  | none =>
   show tG Γ true i m d (pnT L _ k fr τ told [] K') fr tk τ = tG Γ true i m d K fr tk τ
   have q : pnT L ⟨⟨d,i,none⟩,m⟩ k fr τ told [] K' = K:=by
    funext fr' tk' τ'
    unfold pnT
    simp [hK]
   rw [q]
  | some tb =>
   obtain ⟨t,b⟩:=tb
   show gdK Γ true (lkp fr t) b i m d (pnT L _ k fr τ told [] K') fr tk τ = gdK Γ true (lkp fr t) b i m d K fr tk τ
   have q : pnT L ⟨⟨d,i,some (t,b)⟩,m⟩ k fr τ told [] K' = K:=by
    funext fr' tk' τ'
    unfold pnT
    simp [hK]
   rw [q]
theorem zbxa (l : List am) : ∀ (t : DTr Nat) (K : ap) (K' : List (Nat × Ins) → ap) (hK : ∀ t,K' t = K) (told : List (Nat × Ins)),tT Γ lv (pl l) t K' told = tTp Γ lv l t K
 | .nil,K,K',hK,told => hK told
 | .cons k r,K,K',hK,told => zb4g Γ l k told _ _ fun t => zbxa l r K K' hK t
 | .alt k r j q,K,K',hK,told => by
  funext fr tk τ
  show tS Γ (pl l) (pl l)[k]? k told (tT Γ lv (pl l) r _) fr tk τ = tSp Γ l[k]? (tTp Γ lv l r _) fr tk τ
  refine congrFun (congrFun (congrFun (zb4g Γ l k told _ _ fun t => zbxa l r _ _ (fun t1 => ?_) t) fr) tk) τ
  funext fr1 tk1 τ1
  refine congrFun (congrFun (congrFun (zb4g Γ l j told _ _ fun t => zbxa l q _ _ (fun t2 => ?_) t) fr) tk) τ
  funext fr2 tk2 τ2
  rw [hK]
def zb79 (Γ : FuncId → Option TG) (l : List am) : List (DTr Nat × List Nat) → ap → ap
 | [],K => K
 | (t,lv) :: r,K => tTp Γ lv l t fun fr' tk' τ' => zb79 Γ l r K (sel lv fr') tk' τ'
theorem zb0i (l : List am) : ∀ (t : List (DTr Nat × List Nat)) (K : ap) (told : List (Nat × Ins)),tSg Γ (pl l) t K told = zb79 Γ l t K
 | [],K,told => rfl
 | (t,lv) :: r,K,told => zbxa Γ lv l t _ _ (fun t' => by funext fr' tk' τ'; rw [zb0i l r K t']) told
theorem jg (i : I) : wy i 0 fr τ = (fr,τ):=rfl
theorem jf (i : I) : wy i 1 fr τ = (fr,τ):=rfl
theorem je (i : I) : wy i 2 fr τ = (fr,τ):=rfl
theorem jd (i : I) : wy i 7 fr τ = (fr,τ):=rfl
theorem zb15 : tW Γ .skip Q fr tk τ = Q .normal fr tk τ:=zb4c
theorem zb16 (id : Nat) : tW Γ (.exit id) Q fr tk τ = Q (.exit id) fr tk τ:=zb4e
theorem zccj : tW Γ (.ret lv) Q fr tk τ = Q .ret (sel lv fr) tk τ:=zcan
theorem zcck : tW Γ (.ops r) Q fr tk τ = tL Γ r (Q .normal) fr tk τ:=zcao
theorem ma (t : List (DTr Nat × List Nat)) : tW Γ (.drawT (pl r) t) Q fr tk τ = zb79 Γ r t (Q .normal) fr tk τ:=by rw [cp,zb0i]
theorem zcpr : zb79 Γ r [] K = K:=rfl
theorem zcsc (t : DTr Nat) (q : List (DTr Nat × List Nat)) : zb79 Γ r ((t,lv) :: q) K fr tk τ = tTp Γ lv r t (fun fr1 tk1 τ1 => zb79 Γ r q K (sel lv fr1) tk1 τ1) fr tk τ:=rfl
theorem zbqu : tTp Γ lv r .nil K = K:=rfl
theorem zcpt (k : Nat) (t : DTr Nat) : tTp Γ lv r (.cons k t) K = tSp Γ r[k]? (tTp Γ lv r t K):=rfl
theorem zbqv (k j : Nat) (t q : DTr Nat) : tTp Γ lv r (.alt k t j q) K fr tk τ = tSp Γ r[k]? (tTp Γ lv r t fun fr1 tk1 τ1 => tSp Γ r[j]? (tTp Γ lv r q fun fr2 tk2 τ2 => (sel lv fr1 = sel lv fr2 ∧ tk1 = tk2 ∧ τ1 = τ2) ∧ K fr1 tk1 τ1) fr tk τ) fr tk τ:=rfl
theorem zcps (i : I) : tSp Γ (some ⟨⟨d,i,none⟩,m⟩) K fr tk τ = tG Γ true i m d K fr tk τ:=rfl
theorem zbvj : tW Γ (.draw (pl r)) Q fr tk τ = tLD Γ r (Q .normal) fr tk τ:=by rw [ei,zb4j]
theorem zcci : tW Γ (.seq a b) Q fr tk τ = tW Γ a (zbqi (tW Γ b Q) Q) fr tk τ:=zcam
theorem zb17 (c : Operand) : tW Γ (.cond c a b) Q fr tk τ = cT Γ (tO fr c) a b Q fr tk τ:=zb4f
theorem zbvl (id : Nat) : tW Γ (.block id lv a) Q fr tk τ = tW Γ a (zbno id lv tk τ Q) fr tk τ:=zbw9
theorem zbvk : tW Γ (.clean lv a) Q fr tk τ = tW Γ a Q (sel lv fr) tk τ:=zbw8
theorem zbus (c : Bool) : cT Γ (.bool c) a b Q fr tk τ = if c = true then tW Γ a Q fr tk τ else tW Γ b Q fr tk τ:=rfl
theorem zbqg (n : ap) : zbqi n Q .normal = n:=rfl
theorem zbqf (n : ap) : zbqi n Q .ret = Q .ret:=rfl
theorem zbqh (n : ap) (id : Nat) : zbqi n Q (.exit id) = Q (.exit id):=rfl
theorem zcm3 (id : Nat) : zbno id lv tk τ Q .normal fr' tk' τ' = zb1y lv tk τ fr' tk' τ' (Q .normal):=by unfold zbno zb1y xl; simp only [true_or,if_true]; split <;> rfl
theorem zcm2 (id : Nat) : zbno id lv tk τ Q (.exit id) fr' tk' τ' = zb1y lv tk τ fr' tk' τ' (Q .normal):=by unfold zbno zb1y xl; simp only [or_true,if_true]; split <;> rfl
theorem zcqn (id j : Nat) (h : (j = id) = False) : zbno id lv tk τ Q (.exit j) = Q (.exit j):=by funext fr tk τ; unfold zbno; simp [h]
theorem zcm4 (id : Nat) : zbno id lv tk τ Q .ret = Q .ret:=by funext fr tk τ; unfold zbno; simp
theorem zb49 (Q : TEx → ap) : zb5a Γ lv a tk τ Q .normal fr' tk' τ' = zb1y lv tk τ fr' tk' τ' (tW Γ (.loop lv a) Q):=by simp only [zb5a,zb1y,xl]; split <;> rfl
theorem zbu1 : zb1y lv tk τ fr' tk' τ' K = if ltL τ.next tk.length (lv.map fun t => lkp fr' t) = true then K (sel lv fr') (tk'.take tk.length) (τ'.cut τ.next) else K (sel lv fr') tk' τ':=rfl
theorem zb0u (rs : List R) (K : TV → TH → Prop) : zb4u rs false τ K .ret fr tk τ' = rtK (zak1 rs fr τ') τ K τ':=by unfold zb4u rtK; cases zak1 rs fr τ' <;> simp
theorem zb0v (rs : List R) (K : TV → TH → Prop) : zb4u rs false τ K .normal fr tk τ' = rtK (zak1 rs fr τ') τ K τ':=by unfold zb4u rtK; cases zak1 rs fr τ' <;> simp
theorem zbrq (rs : List R) (K : TV → TH → Prop) : zb4u rs true τ K .ret fr tk τ' = fzK ((zak1 rs fr τ').bind (tfz τ' τ.next)) τ K τ':=by unfold zb4u fzK; cases h : zak1 rs fr τ' with | none => simp | some v => simp only [Option.bind_some,or_true,true_and,if_true]; cases tfz τ' τ.next v <;> rfl
theorem zcnz (v : TV) (K : TV → TH → Prop) : fzK (some v) τ K τ' = K v (τ'.cut τ.next):=rfl
theorem zcp5 (v : TV) (K : TV → TH → Prop) : rtK (some v) τ K τ' = if v.canT.under τ.next then K v.canT (τ'.cut τ.next) else v.canT.under τ'.next = true ∧ K v.canT τ':=rfl
theorem zbzx (r : R) : zak1 [r] fr τ = zbwb fr τ r:=rfl
theorem zbzy : zak1 [] fr τ = some (.tup []):=rfl
theorem zbzw (r1 r2 : R) (l : List R) : zak1 (r1 :: r2 :: l) fr τ = (zbpw fr τ (r1 :: r2 :: l)).map .tup:=rfl
def zcb3 (a : Option TV) (b : Option (List TV)) : Option (List TV):=match a,b with | some x,some y => some (x :: y) | _,_ => none
theorem zc73 : zbpw fr τ [] = some []:=rfl
theorem zcvm (r : R) (l : List R) : zbpw fr τ (r :: l) = zcb3 (zbwb fr τ r) (zbpw fr τ l):=rfl
theorem zctc (x : TV) (y : List TV) : zcb3 (some x) (some y) = some (x :: y):=rfl
def ld1 (τ : TH) : TV → Option TV | .ptr id off => zb2v τ id off | .rptr cs off => cs[off]? | _ => none
def ldN (n : Nat) (τ : TH) : TV → Option TV | .ptr id off => if n = 0 then none else (nw τ id off n).map .agg | .rptr cs off => if off + n ≤ cs.length then some (.agg ((cs.drop off).take n)) else none | _ => none
def rdN (n : Nat) (τ : TH) : TV → Option TV | .ptr id off => if n = 0 then none else (nw τ id off n).map .agg | _ => none
theorem zc54 (t : Nat) : zbwb fr τ (.tmp t) = some (lkp fr t):=rfl
theorem zctj (t n : Nat) : zbwb fr τ (.cellN t n) = rdN n τ (lkp fr t):=rfl
theorem zbr3 (n id off : Nat) : rdN n τ (.ptr id off) = if n = 0 then none else (nw τ id off n).map .agg:=rfl
theorem zb0k : tL Γ [] K = K:=rfl
theorem zbq0 (i : I) : tL Γ (⟨⟨d,i,none⟩,m⟩ :: r) K fr tk τ = tG Γ false i m d (tL Γ r K) fr tk τ:=rfl
theorem zbqz (i : I) (t : Nat) (b : Bool) : tL Γ (⟨⟨d,i,some (t,b)⟩,m⟩ :: r) K fr tk τ = gdK Γ false (lkp fr t) b i m d (tL Γ r K) fr tk τ:=rfl
theorem zbq2 : tLD Γ [] K = K:=rfl
theorem zcpn (i : I) : tLD Γ (⟨⟨d,i,none⟩,m⟩ :: r) K fr tk τ = tG Γ true i m d (tLD Γ r K) fr tk τ:=rfl
theorem zcpo (i : I) (t : Nat) (b : Bool) : tLD Γ (⟨⟨d,i,some (t,b)⟩,m⟩ :: r) K fr tk τ = gdK Γ true (lkp fr t) b i m d (tLD Γ r K) fr tk τ:=rfl
theorem zcbu (i : I) : gdK Γ dr (.bool true) true i m d K fr tk τ = tG Γ dr i m d K fr tk τ:=by simp [gdK]
theorem zcbx (i : I) : gdK Γ dr (.bool false) false i m d K fr tk τ = tG Γ dr i m d K fr tk τ:=by simp [gdK]
theorem zcbv (i : I) : gdK Γ dr (.bool true) false i m d K fr tk τ = K (fp fr d (.tup [])) tk τ:=by simp [gdK]
theorem zcbw (i : I) : gdK Γ dr (.bool false) true i m d K fr tk τ = K (fp fr d (.tup [])) tk τ:=by simp [gdK]
theorem zb2k (f : FuncId) (args : List Operand) : tG Γ dr (.call f args) 0 d K fr tk τ = du Γ dr f (args.map fun a => (tO fr a).canT) d K fr tk τ:=rfl
theorem zcpy (f : TV → Option TV) : fu f [] = some []:=rfl
def zcmu (a : Option TV) (b : Option (List TV)) : Option (List TV):=match a,b with | some x,some y => some (x :: y) | _,_ => none
theorem zcsf (f : TV → Option TV) (v : TV) (l : List TV) : fu f (v :: l) = zcmu (f v) (fu f l):=rfl
theorem zcr9 (v : TV) (l : List TV) : zcmu (some v) (some l) = some (v :: l):=rfl
theorem zbqk (n0 : Nat) (cs : List TV) : tfz τ n0 (.agg cs) = (fu (ip τ n0 2) cs).map .agg:=rfl
theorem zcpz (n0 : Nat) (k : IntKind) (n : Int) : ip τ n0 2 (.int k n) = some (TV.int k n):=rfl
theorem zcp0 (n0 : Nat) (s : ByteArray) : ip τ n0 2 (.str s) = some (TV.str s):=rfl
theorem zbql (n0 : Nat) (l : List TV) : ip τ n0 2 (.sl l) = some (TV.sl l):=rfl
theorem zbqj (n0 id off n sz : Nat) : tfz τ n0 (.slm id off n sz) = ip τ n0 2 (.slm id off n sz):=rfl
theorem zbvx (f : FuncId) (args : List Operand) : tG Γ dr (.callW f args) m d K fr tk τ = du Γ false f (args.map fun a => (tO fr a).canT) d K fr tk τ:=rfl
def cvK (Γ : FuncId → Option TG) (dr : Bool) (v : TV) (args : List TV) (d : Option Nat) (K : ap) (fr : TF) (tk : TK) (τ : TH) : Prop:=match v with | .func f a b => du Γ dr f (a ++ args ++ b) d K fr tk τ | _ => False
theorem zbvw (x : Operand) (args : List Operand) : tG Γ dr (.callv x args) m d K fr tk τ = cvK Γ dr (tO fr x) (args.map fun a => (tO fr a).canT) d K fr tk τ:=by unfold cvK; rfl
theorem zcmw (x : Operand) (args : List Operand) : tG Γ dr (.callvW x args) m d K fr tk τ = cvK Γ false (tO fr x) (args.map fun a => (tO fr a).canT) d K fr tk τ:=by unfold cvK; rfl
theorem zbue (f : FuncId) (p q args : List TV) : cvK Γ dr (.func f p q) args d K fr tk τ = du Γ dr f (p ++ args ++ q) d K fr tk τ:=rfl
theorem zbsf (v : TV) : pK (some v) d K fr tk τ = K (fp fr d v) tk τ:=rfl
theorem zb07 (c : Prop) [Decidable c] (v : TV) : pK (if c then some v else none) d K fr tk τ = (c ∧ K (fp fr d v) tk τ):=by unfold pK; by_cases h : c <;> simp [h]
theorem zb46 (c : Prop) [Decidable c] (x : TV × TK × TH) : opK (if c then some x else none) d K fr = (c ∧ opK (some x) d K fr):=by unfold opK; by_cases h : c <;> simp [h]
theorem zccp (x : Operand) : tG Γ dr (.mov x) 0 d K fr tk τ = K (fp fr d (tO fr x)) tk τ:=rfl
def zbsw (v : TV) (d : Option Nat) (K : ap) (fr : TF) (tk : TK) (τ : TH) : Prop:=match v with | .slz => K (fp fr d (.sla tk.length [])) (tk ++ [some (0,0)]) τ | _ => False
theorem zb2f (x : Operand) : tG Γ dr (.mov x) 1 d K fr tk τ = zbsw (tO fr x) d K fr tk τ:=by unfold zbsw; simp only [tG,tOp,if_true]; cases tO fr x <;> rfl
theorem zcpd : zbsw .slz d K fr tk τ = K (fp fr d (.sla tk.length [])) (tk ++ [some (0,0)]) τ:=rfl
def zb44 (c a b : TV) : Option TV:=match c with | .bool t => some (bif t then a else b) | _ => none
theorem mi (o : Option TV) : opK (o.map fun v => (v,tk,τ)) d K fr = pK o d K fr tk τ:=by cases o <;> rfl
theorem zb2e (c a b : Operand) : tG Γ dr (.pick c a b) m d K fr tk τ = pK (zb44 (tO fr c) (tO fr a) (tO fr b)) d K fr tk τ:=(mi d K fr tk τ (tP (.pick c a b) fr τ)).trans (by unfold zb44; rfl)
theorem zbsd (t : Bool) (v w : TV) : zb44 (.bool t) v w = some (bif t then v else w):=rfl
theorem zbvv (x : Operand) : tG Γ dr (.load1 x) 0 d K fr tk τ = pK (ld1 τ (tO fr x)) d K fr tk τ:=(mi d K fr tk τ (tP (.load1 x) fr τ)).trans (by unfold ld1; rfl)
theorem zbth (id off : Nat) : ld1 τ (.ptr id off) = zb2v τ id off:=rfl
theorem zcn8 (cs : List TV) (off : Nat) : ld1 τ (.rptr cs off) = cs[off]?:=rfl
theorem zbvt (n : Nat) (x : Operand) : tG Γ dr (.loadN n x) m d K fr tk τ = pK (ldN n τ (tO fr x)) d K fr tk τ:=(mi d K fr tk τ (tP (.loadN n x) fr τ)).trans (by unfold ldN; rfl)
theorem zbtg (n id off : Nat) : ldN n τ (.ptr id off) = if n = 0 then none else (nw τ id off n).map .agg:=rfl
theorem zcn9 (n : Nat) (cs : List TV) (off : Nat) : ldN n τ (.rptr cs off) = if off + n ≤ cs.length then some (.agg ((cs.drop off).take n)) else none:=rfl
def zcly : TV → Option TV | .ptr id off => some (.ptr id off) | .rptr cs off => some (.rptr cs off) | .func f a b => some (.func f a b) | _ => none
theorem zcmz (x : Operand) : tG Γ dr (.nilchk x) m d K fr tk τ = pK (zcly (tO fr x)) d K fr tk τ:=(mi d K fr tk τ (tP (.nilchk x) fr τ)).trans (by unfold zcly; rfl)
theorem zcpc (id off : Nat) : zcly (.ptr id off) = some (.ptr id off):=rfl
theorem zccs (op : BinOp) (x y : Operand) : tG Γ dr (.bin op x y) m d K fr tk τ = pK (ax op (tO fr x) (tO fr y)) d K fr tk τ:=(mi d K fr tk τ (tP (.bin op x y) fr τ)).trans (by rfl)
def eqb (neg : Bool) (p q : TV) : Option TV:=match p,q with | .bool p,.bool q => some (.bool (bif neg then p != q else p == q)) | _,_ => none
theorem zccq (neg : Bool) (x y : Operand) : tG Γ dr (.eqB neg x y) m d K fr tk τ = pK (eqb neg (tO fr x) (tO fr y)) d K fr tk τ:=(mi d K fr tk τ (tP (.eqB neg x y) fr τ)).trans (by unfold eqb; rfl)
theorem zb1u (neg p q : Bool) : eqb neg (.bool p) (.bool q) = some (.bool (bif neg then p != q else p == q)):=rfl
theorem zc9p (op : UnOp) (x : Operand) : tG Γ dr (.un op x) m d K fr tk τ = pK (tun op (tO fr x)) d K fr tk τ:=(mi d K fr tk τ (tP (.un op x) fr τ)).trans (by rfl)
def cnv (k : IntKind) : TV → Option TV | .int _ n => some (.int k (k.wrap n)) | _ => none
theorem zb2j (k : IntKind) (x : Operand) : tG Γ dr (.conv k x) m d K fr tk τ = pK (cnv k (tO fr x)) d K fr tk τ:=(mi d K fr tk τ (tP (.conv k x) fr τ)).trans (by unfold cnv; rfl)
theorem zbui (k j : IntKind) (n : Int) : cnv k (.int j n) = some (.int k (k.wrap n)):=rfl
def fad (off : Nat) : TV → Option TV | .ptr id o => some (.ptr id (o + off)) | .rptr cs o => some (.rptr cs (o + off)) | _ => none
theorem zc4t (off : Nat) (x : Operand) : tG Γ dr (.fieldAddr off x) 0 d K fr tk τ = pK (fad off (tO fr x)) d K fr tk τ:=(mi d K fr tk τ (tP (.fieldAddr off x) fr τ)).trans (by unfold fad; rfl)
def lfO (b : Option Ob) (id o off : Nat) (d : Option Nat) (K : ap) (fr : TF) (tk : TK) (τ : TH) : Prop:=match b with
 | some b => (τ.lock ≤ id ∧ b.cs ≠ []) ∧ K (fp (ss id τ.next fr) d (.ptr τ.next (o + off))) tk ((τ.put id ⟨b.t,[]⟩).push b)
 | none => False
def lfK (off : Nat) (v : TV) (d : Option Nat) (K : ap) (fr : TF) (tk : TK) (τ : TH) : Prop:=match v with | .ptr id o => lfO (τ.at id) id o off d K fr tk τ | _ => False
theorem zbqy (id n : Nat) (fr : TF) (x : Operand) : tO (ss id n fr) x = ren id n (tO fr x) ∨ ∃ v,x = .const v:=by
 cases x with
 | tmp t =>
  left
  induction fr with
  | nil => rfl
  | cons p r ih =>
   obtain ⟨k,v⟩:=p
   show lkp ((k,ren id n v) :: ss id n r) t = ren id n (lkp ((k,v) :: r) t)
   simp only [lkp]
   by_cases h : t = k
   · rw [if_pos h,if_pos h]
   · rw [if_neg h,if_neg h]; exact ih
 | const v => exact .inr ⟨v,rfl⟩
 | func f => left; rfl
 | global g => left; rfl
theorem zb2g (off : Nat) (t : Nat) (h : lfK off (lkp fr t) d K fr tk τ) : tG Γ dr (.fieldAddr off (.tmp t)) 9 d K fr tk τ:=by
 unfold lfK at h
 split at h
 · rename_i id o hz
   have hz' : tO fr (.tmp t) = .ptr id o:=hz
   unfold lfO at h
   split at h
   · rename_i b hb
     obtain ⟨hc,h⟩:=h
     have e : wy (.fieldAddr off (.tmp t)) 9 fr τ = (ss id τ.next fr,(τ.put id ⟨b.t,[]⟩).push b):=by
      unfold wy zb2t
      rw [if_pos rfl]
      simp only [hz',hb]
      rw [if_pos hc]
     simp only [tG,e]
     have e2 : tO (ss id τ.next fr) (.tmp t) = .ptr τ.next o:=by
      rcases zbqy id τ.next fr (.tmp t) with e2 | ⟨v,e2⟩
      · rw [e2,hz']; simp [ren]
      · cases e2
     simp only [tOp,tP,e2]
     exact h
   · exact h.elim
 · exact h.elim
theorem zbtc (off id o : Nat) : lfK off (.ptr id o) d K fr tk τ = lfO (τ.at id) id o off d K fr tk τ:=rfl
theorem zcod (id o off : Nat) (t : TypeId) (cs : List TV) : lfO (some ⟨t,cs⟩) id o off d K fr tk τ = ((τ.lock ≤ id ∧ cs ≠ []) ∧ K (fp (ss id τ.next fr) d (.ptr τ.next (o + off))) tk ((τ.put id ⟨t,[]⟩).push ⟨t,cs⟩)):=rfl
theorem zcp2 (i n : Nat) : ss i n [] = []:=rfl
theorem zcri (i n k : Nat) (v : TV) (l : TF) : ss i n ((k,v) :: l) = (k,ren i n v) :: ss i n l:=rfl
theorem zbru (i n j o : Nat) : ren i n (.ptr j o) = if j = i then .ptr n o else .ptr j o:=rfl
theorem zbrv (i n : Nat) (k : IntKind) (x : Int) : ren i n (TV.int k x) = TV.int k x:=rfl
theorem zbrr (i n : Nat) (s : ByteArray) : ren i n (TV.str s) = TV.str s:=rfl
theorem zbrs (i n : Nat)  : ren i n (TV.slz ) = TV.slz :=rfl
theorem zb0w (i n : Nat) (l : List TV) : ren i n (TV.sl l) = TV.sl l:=rfl
theorem zbrt (i n : Nat) (j o n0 s : Nat) : ren i n (TV.slm j o n0 s) = TV.slm j o n0 s:=rfl
theorem zbrw (i n : Nat) (cs : List TV) : ren i n (TV.agg cs) = TV.agg cs:=rfl
theorem zbt9 (off id o : Nat) : fad off (.ptr id o) = some (.ptr id (o + off)):=rfl
theorem zcny (off : Nat) (cs : List TV) (o : Nat) : fad off (.rptr cs o) = some (.rptr cs (o + off)):=rfl
def fl1 (off : Nat) : TV → Option TV | .agg cs => cs[off]? | _ => none
theorem zcmx (off : Nat) (x : Operand) : tG Γ dr (.field1 off x) m d K fr tk τ = pK (fl1 off (tO fr x)) d K fr tk τ:=(mi d K fr tk τ (tP (.field1 off x) fr τ)).trans (by unfold fl1; rfl)
theorem zbt7 (off : Nat) (cs : List TV) : fl1 off (.agg cs) = cs[off]?:=rfl
def ixP (len sz : Nat) (x i : TV) : Option TV:=match x,i with
 | .ptr id o,.int _ n => if 0 ≤ n ∧ n < len then some (.ptr id (o + n.toNat * sz)) else none
 | .rptr cs o,.int _ n => if 0 ≤ n ∧ n < len then some (.rptr cs (o + n.toNat * sz)) else none
 | _,_ => none
theorem zcsj (len sz : Nat) (x i : Operand) : tG Γ dr (.indexPtr len sz x i) m d K fr tk τ = pK (ixP len sz (tO fr x) (tO fr i)) d K fr tk τ:=(mi d K fr tk τ (tP (.indexPtr len sz x i) fr τ)).trans (by unfold ixP; rfl)
theorem zbtq (len sz id o : Nat) (k : IntKind) (n : Int) : ixP len sz (.ptr id o) (.int k n) = if 0 ≤ n ∧ n < len then some (.ptr id (o + n.toNat * sz)) else none:=rfl
def ixS (sz : Nat) (x i : TV) : Option TV:=match i with
 | .int _ n => (match x with
  | .slm id o len s => if 0 ≤ n ∧ n < len ∧ s = sz then some (.ptr id (o + n.toNat * sz)) else none
  | v => v.list.bind fun l => if 0 ≤ n ∧ n < l.length ∧ (l.getD n.toNat .undef).cells.length = sz then some (.rptr (l.getD n.toNat .undef).cells 0) else none)
 | _ => none
theorem zcqg (sz : Nat) (x i : Operand) : tG Γ dr (.indexSl sz x i) m d K fr tk τ = pK (ixS sz (tO fr x) (tO fr i)) d K fr tk τ:=(mi d K fr tk τ (tP (.indexSl sz x i) fr τ)).trans (by unfold ixS; rfl)
theorem zb1n (sz : Nat) (l : List TV) (j : IntKind) (n : Int) : ixS sz (.sl l) (.int j n) = if 0 ≤ n ∧ n < l.length ∧ (l.getD n.toNat .undef).cells.length = sz then some (.rptr (l.getD n.toNat .undef).cells 0) else none:=rfl
theorem zbtp (sz id o len s : Nat) (j : IntKind) (n : Int) : ixS sz (.slm id o len s) (.int j n) = if 0 ≤ n ∧ n < len ∧ s = sz then some (.ptr id (o + n.toNat * sz)) else none:=rfl
def ixT (x i : TV) : Option TV:=match x,i with | .str s,.int _ n => if 0 ≤ n ∧ n < s.size then some (.int .u8 (s.data.getD n.toNat 0).toNat) else none | _,_ => none
theorem zcsk (x i : Operand) : tG Γ dr (.indexStr x i) m d K fr tk τ = pK (ixT (tO fr x) (tO fr i)) d K fr tk τ:=(mi d K fr tk τ (tP (.indexStr x i) fr τ)).trans (by unfold ixT; rfl)
theorem zcbo (s : ByteArray) (k : IntKind) (n : Int) : ixT (.str s) (.int k n) = if 0 ≤ n ∧ n < s.size then some (.int .u8 (s.data.getD n.toNat 0).toNat) else none:=rfl
def slT (x : TV) (lo hi : Option TV) : Option TV:=match x with | .str s => (oo s.size lo hi).map fun lh => .str (s.extract lh.1 lh.2) | _ => none
theorem zcsl (x : Operand) (lo hi : Option Operand) : tG Γ dr (.sliceStr x lo hi) m d K fr tk τ = pK (slT (tO fr x) (lo.map (tO fr)) (hi.map (tO fr))) d K fr tk τ:=(mi d K fr tk τ (tP (.sliceStr x lo hi) fr τ)).trans (by unfold slT; rfl)
theorem zcar (s : ByteArray) (lo hi : Option TV) : slT (.str s) lo hi = (oo s.size lo hi).map fun lh => .str (s.extract lh.1 lh.2):=rfl
def slS (sz : Nat) (x : TV) (lo hi : Option TV) : Option TV:=match x with
 | .slm id o len s => if s = sz then (oo len lo hi).map fun lh => .slm id (o + lh.1 * sz) (lh.2 - lh.1) sz else none
 | .sl l => if l.all (fun e => e.cells.length == sz) && !l.isEmpty then (oo l.length lo hi).map fun lh => .sl ((l.take lh.2).drop lh.1) else none
 | .sla _ l => if l.all (fun e => e.cells.length == sz) && !l.isEmpty then (oo l.length lo hi).map fun lh => .sl ((l.take lh.2).drop lh.1) else none
 | _ => none
theorem zcqk (sz : Nat) (x : Operand) (lo hi : Option Operand) : tG Γ dr (.sliceSl sz x lo hi) m d K fr tk τ = pK (slS sz (tO fr x) (lo.map (tO fr)) (hi.map (tO fr))) d K fr tk τ:=(mi d K fr tk τ (tP (.sliceSl sz x lo hi) fr τ)).trans (by unfold slS; rfl)
theorem zb0p (sz : Nat) (l : List TV) (lo hi : Option TV) : slS sz (.sl l) lo hi = if l.all (fun e => e.cells.length == sz) && !l.isEmpty then (oo l.length lo hi).map fun lh => .sl ((l.take lh.2).drop lh.1) else none:=rfl
theorem zbra (sz id o len s : Nat) (lo hi : Option TV) : slS sz (.slm id o len s) lo hi = if s = sz then (oo len lo hi).map fun lh => .slm id (o + lh.1 * sz) (lh.2 - lh.1) sz else none:=rfl
theorem zcaj (n : Nat) (k : IntKind) (l : Int) : oo n (some (.int k l)) none = if 0 ≤ l ∧ l ≤ n then some (l.toNat,n) else none:=rfl
theorem zcai (n : Nat) (k : IntKind) (h : Int) : oo n none (some (.int k h)) = if 0 ≤ h ∧ h ≤ n then some (0,h.toNat) else none:=by unfold oo tHi; by_cases c : 0 ≤ h ∧ h ≤ n <;> simp [c,tLo]
theorem zcak (n : Nat) (k j : IntKind) (l h : Int) : oo n (some (.int k l)) (some (.int j h)) = if (0 ≤ h ∧ h ≤ n) ∧ 0 ≤ l ∧ l ≤ h then some (l.toNat,h.toNat) else none:=by
 unfold oo tHi
 by_cases c : 0 ≤ h ∧ h ≤ n
 · have e : ((h.toNat : Nat) : Int) = h:=by omega
   simp only [c,and_self,if_true,Option.bind_some,tLo,e,true_and]
 · have c' : ¬ ((0 ≤ h ∧ h ≤ n) ∧ 0 ≤ l ∧ l ≤ h):=fun q => c q.1
   rw [if_neg c']
   simp [c]
theorem zbsy {α β : Type} (c : Prop) [Decidable c] (x : α) (f : α → β) : (if c then some x else none : Option α).map f = if c then some (f x) else none:=by by_cases h : c <;> simp [h]
def zcl4 : TV → Option TV | .str s => some (.int .i64 s.size) | _ => none
theorem zb2h (x : Operand) : tG Γ dr (.lenS x) m d K fr tk τ = pK (zcl4 (tO fr x)) d K fr tk τ:=(mi d K fr tk τ (tP (.lenS x) fr τ)).trans (by unfold zcl4; rfl)
theorem zb1m (s : ByteArray) : zcl4 (.str s) = some (.int .i64 s.size):=rfl
def zb8c : TV → Option TV | .slm _ _ n _ => some (.int .i64 n) | v => v.list.map fun l => .int .i64 l.length
theorem zb2i (x : Operand) : tG Γ dr (.lenL x) m d K fr tk τ = pK (zb8c (tO fr x)) d K fr tk τ:=(mi d K fr tk τ (tP (.lenL x) fr τ)).trans (by unfold zb8c; rfl)
theorem zcob (id o n s : Nat) : zb8c (.slm id o n s) = some (.int .i64 n):=rfl
theorem zbtd (l : List TV) : zb8c (.sl l) = some (.int .i64 l.length):=rfl
theorem zcoa (k : Nat) (l : List TV) : zb8c (.sla k l) = some (.int .i64 l.length):=rfl
theorem zcoc : zb8c .slz = some (.int .i64 0):=rfl
theorem zcmy (f : FuncId) (first captured : List Operand) : tG Γ dr (.mkFunc (.func f) first captured) m d K fr tk τ = K (fp fr d (.func f (first.map fun x => (tO fr x).canS) (captured.map fun x => (tO fr x).canS))) tk τ:=rfl
theorem zbvy (zero : List Value) (parts : List (Nat × Nat × Operand)) : tG Γ dr (.build zero parts) m d K fr tk τ = pK ((zbyy (zero.map ofS) (parts.map fun p => (p.1,p.2.1,tO fr p.2.2))).map .agg) d K fr tk τ:=(mi d K fr tk τ (tP (.build zero parts) fr τ)).trans (by rfl)
theorem zcse (cs : List TV) : zbyy cs [] = some cs:=rfl
theorem zcti (cs : List TV) (off size : Nat) (v : TV) (r : List (Nat × Nat × TV)) : zbyy cs ((off,size,v) :: r) = if v.known = true ∧ v.cells.length = size ∧ off + size ≤ cs.length then zbyy (n4 cs off (v.cells.map TV.part)) r else none:=rfl
theorem zcg2 (cs : List TV) (off : Nat) : n4 cs off [] = cs:=rfl
theorem zckt (cs : List TV) (off : Nat) (v : TV) (r : List TV) : n4 cs off (v :: r) = n4 (cs.set off v) (off + 1) r:=rfl
def zcaq (τ : TH) : TV → Option TV | .slm id off n s => (if s = 1 then ((nw τ id off n).bind wx).map fun bs => .str ⟨bs.toArray⟩ else none) | v => (v.list.bind wx).map fun bs => .str ⟨bs.toArray⟩
theorem zbvr (x : Operand) : tG Γ dr (.toStr x) m d K fr tk τ = pK (zcaq τ (tO fr x)) d K fr tk τ:=(mi d K fr tk τ (tP (.toStr x) fr τ)).trans (by unfold zcaq; rfl)
theorem zcqm (l : List TV) : zcaq τ (.sl l) = (wx l).map fun bs => .str ⟨bs.toArray⟩:=rfl
theorem zcsh (k : Nat) (l : List TV) : zcaq τ (.sla k l) = (wx l).map fun bs => .str ⟨bs.toArray⟩:=rfl
theorem zcpk (id off n s : Nat) : zcaq τ (.slm id off n s) = if s = 1 then ((nw τ id off n).bind wx).map fun bs => .str ⟨bs.toArray⟩ else none:=rfl
def ixA (len : Nat) (x i : TV) : Option TV:=match x,i with | .agg cs,.int _ n => if 0 ≤ n ∧ n < len ∧ len ≤ cs.length then cs[n.toNat]? else none | _,_ => none
theorem zcsi (len : Nat) (x i : Operand) : tG Γ dr (.indexAgg len x i) m d K fr tk τ = pK (ixA len (tO fr x) (tO fr i)) d K fr tk τ:=(mi d K fr tk τ (tP (.indexAgg len x i) fr τ)).trans (by unfold ixA; rfl)
theorem zcbq (len : Nat) (cs : List TV) (k : IntKind) (n : Int) : ixA len (.agg cs) (.int k n) = if 0 ≤ n ∧ n < len ∧ len ≤ cs.length then cs[n.toNat]? else none:=rfl
theorem zccr (t n : Nat) (x : Operand) : tG Γ dr (.box t n x) m d K fr tk τ = (((tO fr x).cells.all TV.one = true ∧ ju τ.next ((tO fr x).cells.map TV.put) = true) ∧ K (fp fr d (.ptr τ.next 0)) tk (τ.push ⟨t,(tO fr x).cells.map TV.put⟩)):=zb46 d K fr _ _
def stK (n : Nat) (a x : TV) (d : Option Nat) (K : ap) (fr : TF) (tk : TK) (τ : TH) : Prop:=match a with
 | .ptr id off => x.cells.length = n ∧ (match zb3w τ id off (x.cells.map TV.put) with | some τ' => K (fp fr d (.tup [])) tk τ' | none => False)
 | _ => False
theorem zbvs (n : Nat) (y x : Operand) : tG Γ dr (.store n y x) 0 d K fr tk τ = stK n (tO fr y) (tO fr x) d K fr tk τ:=by
 have e0 : wy (.store n y x) 0 fr τ = (fr,τ):=rfl
 simp only [tG,e0,tOp,stK]
 cases tO fr y with
 | ptr id off =>
  by_cases h : (tO fr x).cells.length = n
  · simp only [h,if_true,true_and,show (0 : Nat) = 2 ↔ False from by decide,if_false]
    cases zb3w τ id off ((tO fr x).cells.map TV.put) <;> rfl
  · simp [h,opK]
 | _ => rfl
def stB (o : Option Ob) (id off : Nat) (vs : List TV) (d : Option Nat) (K : ap) (fr : TF) (tk : TK) (τ : TH) : Prop:=match o with
 | some b => (τ.lock ≤ id ∧ vs ≠ [] ∧ off + vs.length ≤ b.cs.length ∧ (vs.all TV.one = true) ∧ ju (id + 1) vs = true) ∧ K (fp fr d (.tup [])) tk (τ.put id ⟨b.t,n4 b.cs off vs⟩)
 | none => False
theorem zbyu (n t : Nat) (x : Operand) (id o : Nat) (T : TypeId) (cs : List TV) (hz : lkp fr t = .ptr id o) (hb : τ.at id = some ⟨T,cs⟩) (hc : τ.lock ≤ id ∧ cs ≠ []) (hx : ∀ v,x ≠ .const v)
 (h : stK n (.ptr τ.next o) (ren id τ.next (tO fr x)) d K (ss id τ.next fr) tk ((τ.put id ⟨T,[]⟩).push ⟨T,cs⟩)) : tG Γ dr (.store n (.tmp t) x) 9 d K fr tk τ:=by
 have hz' : tO fr (.tmp t) = .ptr id o:=hz
 have e : wy (.store n (.tmp t) x) 9 fr τ = (ss id τ.next fr,(τ.put id ⟨T,[]⟩).push ⟨T,cs⟩):=by
  unfold wy zb2t
  rw [if_pos rfl]
  simp only [hz',hb]
  rw [if_pos hc]
 have e2 : tO (ss id τ.next fr) (.tmp t) = .ptr τ.next o:=by
  rcases zbqy id τ.next fr (.tmp t) with e2 | ⟨v,e2⟩
  · rw [e2,hz']; simp [ren]
  · cases e2
 have e3 : tO (ss id τ.next fr) x = ren id τ.next (tO fr x):=by
  rcases zbqy id τ.next fr x with e3 | ⟨v,e3⟩
  · exact e3
  · exact absurd e3 (hx v)
 simp only [tG,e,tOp,e2,e3]
 unfold stK at h
 simp only at h
 rw [if_neg (by decide),if_pos h.1]
 have h2:=h.2
 revert h2
 cases zb3w ((τ.put id ⟨T,[]⟩).push ⟨T,cs⟩) τ.next o ((ren id τ.next (tO fr x)).cells.map TV.put) <;> exact fun h => h
theorem zbq9 (n id off : Nat) (x : TV) : stK n (.ptr id off) x d K fr tk τ = (x.cells.length = n ∧ stB (τ.at id) id off (x.cells.map TV.put) d K fr tk τ):=by
 simp only [stK,stB,zb3w]
 cases τ.at id with
 | none => rfl
 | some b =>
  simp only [Option.bind_some]
  split
  · rename_i τ' h
    split at h
    · rename_i hc; injection h with h; subst h; simp only [hc,ne_eq,not_false_eq_true,and_self,true_and]
    · cases h
  · rename_i h
    split at h
    · cases h
    · rename_i hc; simp only [hc,false_and]
theorem zcpi (t : TypeId) (cs : List TV) (id off : Nat) (vs : List TV) : stB (some ⟨t,cs⟩) id off vs d K fr tk τ = ((τ.lock ≤ id ∧ vs ≠ [] ∧ off + vs.length ≤ cs.length ∧ (vs.all TV.one = true) ∧ ju (id + 1) vs = true) ∧ K (fp fr d (.tup [])) tk (τ.put id ⟨t,n4 cs off vs⟩)):=rfl
def tkB (o : Option Ob) (id off : Nat) (d : Option Nat) (K : ap) (fr : TF) (tk : TK) (τ : TH) : Prop:=match o with
 | some b => (match b.cs[off]? with | some (.slo t l) => τ.lock ≤ id ∧ K (fp fr d (.sla tk.length l)) (tk ++ [some (l.length,t)]) (τ.put id ⟨b.t,b.cs.set off (.sl l)⟩) | some .slz => τ.lock ≤ id ∧ K (fp fr d (.sla tk.length [])) (tk ++ [some (0,0)]) (τ.put id ⟨b.t,b.cs.set off (.sl [])⟩) | _ => False)
 | none => False
def tkK (x : TV) (d : Option Nat) (K : ap) (fr : TF) (tk : TK) (τ : TH) : Prop:=match x with | .ptr id off => tkB (τ.at id) id off d K fr tk τ | _ => False
def tkC (t : TypeId) (cs : List TV) (id off : Nat) (v : Option TV) (d : Option Nat) (K : ap) (fr : TF) (tk : TK) (τ : TH) : Prop:=match v with | some (.slo u l) => τ.lock ≤ id ∧ K (fp fr d (.sla tk.length l)) (tk ++ [some (l.length,u)]) (τ.put id ⟨t,cs.set off (.sl l)⟩) | some .slz => τ.lock ≤ id ∧ K (fp fr d (.sla tk.length [])) (tk ++ [some (0,0)]) (τ.put id ⟨t,cs.set off (.sl [])⟩) | _ => False
theorem zbvu (x : Operand) : tG Γ dr (.load1 x) 2 d K fr tk τ = tkK (tO fr x) d K fr tk τ:=by
 simp only [tG,tOp,tkK,if_true]
 cases tO fr x with
 | ptr id off =>
  simp only [tkB]
  cases τ.at id with
  | none => rfl
  | some b =>
   simp only [Option.bind_some]
   cases hq : b.cs[off]? with
   | none => rfl
   | some v =>
    cases v with
    | slo t l => by_cases h : τ.lock ≤ id <;> simp [h,opK]
    | slz => by_cases h : τ.lock ≤ id <;> simp [h,opK]
    | _ => rfl
 | _ => rfl
theorem zbqe (id off : Nat) : tkK (.ptr id off) d K fr tk τ = tkB (τ.at id) id off d K fr tk τ:=rfl
theorem zcp1 (t : TypeId) (cs : List TV) (id off : Nat) : tkB (some ⟨t,cs⟩) id off d K fr tk τ = tkC t cs id off cs[off]? d K fr tk τ:=rfl
theorem zcqb (t : TypeId) (cs : List TV) (id off : Nat) : tkC t cs id off (some .slz) d K fr tk τ = (τ.lock ≤ id ∧ K (fp fr d (.sla tk.length [])) (tk ++ [some (0,0)]) (τ.put id ⟨t,cs.set off (.sl [])⟩)):=rfl
theorem zcqa (t u : TypeId) (cs l : List TV) (id off : Nat) : tkC t cs id off (some (.slo u l)) d K fr tk τ = (τ.lock ≤ id ∧ K (fp fr d (.sla tk.length l)) (tk ++ [some (l.length,u)]) (τ.put id ⟨t,cs.set off (.sl l)⟩)):=rfl
def s2K (n : Nat) (a x : TV) (d : Option Nat) (K : ap) (fr : TF) (tk : TK) (τ : TH) : Prop:=match a,x with
 | .ptr id off,.sla tok l => (match tk[tok]? with
  | some (some (k,t)) => (k = l.length ∧ n = 1) ∧ stB (τ.at id) id off [.slo t l] d K fr (tk.set tok none) τ
  | _ => False)
 | _,_ => False
def s2T (o : Option (Option (Nat × TypeId))) (n id off tok : Nat) (l : List TV) (d : Option Nat) (K : ap) (fr : TF) (tk : TK) (τ : TH) : Prop:=match o with
 | some (some (k,t)) => (k = l.length ∧ n = 1) ∧ stB (τ.at id) id off [.slo t l] d K fr (tk.set tok none) τ
 | _ => False
theorem zcm0 (n : Nat) (y x : Operand) : tG Γ dr (.store n y x) 2 d K fr tk τ = s2K n (tO fr y) (tO fr x) d K fr tk τ:=by
 have e0 : wy (.store n y x) 2 fr τ = (fr,τ):=rfl
 simp only [tG,e0,tOp,s2K,if_true]
 cases tO fr y with
 | ptr id off =>
  cases tO fr x with
  | sla tok l =>
   simp only
   cases tk[tok]? with
   | none => rfl
   | some o =>
    cases o with
    | none => rfl
    | some p =>
     obtain ⟨k,t⟩:=p
     by_cases h : k = l.length ∧ n = 1
     · simp only [h,and_self,if_true,true_and,zb3w,stB]
       cases τ.at id with
       | none => rfl
       | some b =>
        simp only [Option.bind_some]
        by_cases hc : τ.lock ≤ id ∧ [TV.slo t l] ≠ [] ∧ off + [TV.slo t l].length ≤ b.cs.length ∧ ([TV.slo t l].all TV.one = true) ∧ ju (id + 1) [TV.slo t l] = true
        · rw [if_pos hc]; simp only [hc,ne_eq,not_false_eq_true,and_self,true_and]; rfl
        · rw [if_neg hc]; simp only [hc,false_and]; rfl
     · simp only [h,if_false,false_and]; rfl
  | _ => rfl
 | _ => rfl
theorem zbrk (n id off tok : Nat) (l : List TV) : s2K n (.ptr id off) (.sla tok l) d K fr tk τ = s2T (tk[tok]?) n id off tok l d K fr tk τ:=rfl
theorem zcp6 (n id off tok k t : Nat) (l : List TV) : s2T (some (some (k,t))) n id off tok l d K fr tk τ = ((k = l.length ∧ n = 1) ∧ stB (τ.at id) id off [.slo t l] d K fr (tk.set tok none) τ):=rfl
def bsO (m : Nat) (t sz : Nat) (o : Option (List TV)) (d : Option Nat) (K : ap) (fr : TF) (tk : TK) (τ : TH) : Prop:=match o with | some l => (if m = 1 then K (fp fr d (.slm τ.next 0 l.length sz)) tk (τ.push ⟨t,l.flatMap TV.cells⟩) else if m = 2 then (l ≠ [] ∧ l.length ≤ maxLen) ∧ K (fp fr d (.sla tk.length l)) (tk ++ [some (l.length,t)]) τ else K (fp fr d (.sl l)) tk τ) | none => False
theorem zcqf (t sz len : Nat) (zeros : List Value) (parts : List (Nat × Nat × Operand)) : tG Γ dr (.buildSl t sz len zeros parts) m d K fr tk τ = ((parts.length = len ∧ sz ≠ 0 ∧ zeros.length = len * sz) ∧ bsO m t sz (zbps sz 0 (parts.map fun p => (p.1,p.2.1,tO fr p.2.2))) d K fr tk τ):=by
 simp only [tG,tOp,bsO]
 by_cases h : parts.length = len ∧ sz ≠ 0 ∧ zeros.length = len * sz
 · rw [if_pos h]
   cases zbps sz 0 (parts.map fun p => (p.1,p.2.1,tO fr p.2.2)) with
   | none => exact propext ⟨False.elim,fun q => q.2⟩
   | some l =>
    simp only [Option.bind_some,and_iff_right h]
    by_cases h1 : m = 1
    · rw [if_pos h1,if_pos h1]; rfl
    · rw [if_neg h1,if_neg h1]
      by_cases h2 : m = 2
      · rw [if_pos h2,if_pos h2]
        by_cases h3 : l ≠ [] ∧ l.length ≤ maxLen
        · rw [if_pos h3]; exact propext ⟨fun q => ⟨h3,q⟩,fun q => q.2⟩
        · rw [if_neg h3]; exact propext ⟨False.elim,fun q => h3 q.1⟩
      · rw [if_neg h2,if_neg h2]; rfl
 · rw [if_neg h]; simp only [h,false_and]; rfl
theorem zcb7 (t sz : Nat) (l : List TV) : bsO 0 t sz (some l) d K fr tk τ = K (fp fr d (.sl l)) tk τ:=rfl
theorem zcb6 (t sz : Nat) (l : List TV) : bsO 1 t sz (some l) d K fr tk τ = K (fp fr d (.slm τ.next 0 l.length sz)) tk (τ.push ⟨t,l.flatMap TV.cells⟩):=rfl
theorem zcb5 (t sz : Nat) (l : List TV) : bsO 2 t sz (some l) d K fr tk τ = ((l ≠ [] ∧ l.length ≤ maxLen) ∧ K (fp fr d (.sla tk.length l)) (tk ++ [some (l.length,t)]) τ):=rfl
theorem zcth (sz i : Nat) : zbps sz i [] = some []:=rfl
theorem zc50 (sz i off n : Nat) (v : TV) (r : List (Nat × Nat × TV)) : zbps sz i ((off,n,v) :: r) = if off = i * sz ∧ n = sz ∧ v.canA.cells.length = sz ∧ v.canA.pure = true then (zbps sz (i + 1) r).map (v.canA :: ·) else none:=rfl
def msK (mu : Bool) (t bytes : Nat) (zero : List Value) (l c : TV) (d : Option Nat) (K : ap) (fr : TF) (tk : TK) (τ : TH) : Prop:=match l,c with
 | .int _ n,.int _ k => (0 ≤ n ∧ n ≤ k ∧ k * bytes ≤ 140737488355328 ∧ k ≤ 9223372036854775807 ∧ zero.length ≠ 0 ∧ (zero.all fun z => (ofS z).canS.pureS) = true) ∧
  (bif mu then K (fp fr d (.slm τ.next 0 n.toNat zero.length)) tk (τ.push ⟨t,((List.replicate n.toNat (zero.map fun z => (ofS z).put)).flatten)⟩) else K (fp fr d (.sl (List.replicate n.toNat (zaeu (zero.map fun z => (ofS z).canS))))) tk τ)
 | _,_ => False
theorem zcqh (t bytes : Nat) (zero : List Value) (l c : Operand) : tG Γ dr (.makeSl t bytes zero l c) 0 d K fr tk τ = msK false t bytes zero (tO fr l) (tO fr c) d K fr tk τ:=by
 simp only [tG,tOp,msK]
 cases tO fr l with
 | int k1 n =>
  cases tO fr c with
  | int k2 k =>
   simp only
   by_cases h : 0 ≤ n ∧ n ≤ k ∧ k * bytes ≤ 140737488355328 ∧ k ≤ 9223372036854775807 ∧ zero.length ≠ 0 ∧ (zero.all fun z => (ofS z).canS.pureS) = true
   · rw [if_pos h]; simp only [h,ne_eq,not_false_eq_true,and_self,true_and]; rfl
   · rw [if_neg h]; simp only [h,false_and]; rfl
  | _ => rfl
 | _ => rfl
theorem zcqi (t bytes : Nat) (zero : List Value) (l c : Operand) : tG Γ dr (.makeSl t bytes zero l c) 1 d K fr tk τ = msK true t bytes zero (tO fr l) (tO fr c) d K fr tk τ:=by
 simp only [tG,tOp,msK]
 cases tO fr l with
 | int k1 n =>
  cases tO fr c with
  | int k2 k =>
   simp only
   by_cases h : 0 ≤ n ∧ n ≤ k ∧ k * bytes ≤ 140737488355328 ∧ k ≤ 9223372036854775807 ∧ zero.length ≠ 0 ∧ (zero.all fun z => (ofS z).canS.pureS) = true
   · rw [if_pos h]; simp only [h,ne_eq,not_false_eq_true,and_self,true_and]; rfl
   · rw [if_neg h]; simp only [h,false_and]; rfl
  | _ => rfl
 | _ => rfl
def msA (t bytes : Nat) (zero : List Value) (l c : TV) (d : Option Nat) (K : ap) (fr : TF) (tk : TK) (τ : TH) : Prop:=match l,c with
 | .int _ n,.int _ k => (0 ≤ n ∧ n ≤ k ∧ k * bytes ≤ 140737488355328 ∧ k ≤ 9223372036854775807 ∧ zero.length ≠ 0 ∧ (zero.all fun z => (ofS z).canS.pureS) = true) ∧ (n = 0 ∧ zero.length = 1) ∧ K (fp fr d (.slb tk.length t)) (tk ++ [some (0,t)]) τ
 | _,_ => False
theorem zcqj (t bytes : Nat) (zero : List Value) (l c : Operand) : tG Γ dr (.makeSl t bytes zero l c) 2 d K fr tk τ = msA t bytes zero (tO fr l) (tO fr c) d K fr tk τ:=by
 simp only [tG,tOp,msA]
 cases tO fr l with
 | int k1 n =>
  cases tO fr c with
  | int k2 k =>
   simp only
   by_cases h : 0 ≤ n ∧ n ≤ k ∧ k * bytes ≤ 140737488355328 ∧ k ≤ 9223372036854775807 ∧ zero.length ≠ 0 ∧ (zero.all fun z => (ofS z).canS.pureS) = true
   · rw [if_pos h,if_neg (by decide),if_pos trivial]
     by_cases h2 : n = 0 ∧ zero.length = 1
     · rw [if_pos h2]; exact propext ⟨fun q => ⟨h,h2,q⟩,fun q => q.2.2⟩
     · rw [if_neg h2]; exact propext ⟨False.elim,fun q => h2 q.2.1⟩
   · rw [if_neg h]; simp only [h,false_and]; rfl
  | _ => rfl
 | _ => rfl
theorem zcbd (t bytes : Nat) (zero : List Value) (j1 j2 : IntKind) (n k : Int) : msA t bytes zero (.int j1 n) (.int j2 k) d K fr tk τ = ((0 ≤ n ∧ n ≤ k ∧ k * bytes ≤ 140737488355328 ∧ k ≤ 9223372036854775807 ∧ zero.length ≠ 0 ∧ (zero.all fun z => (ofS z).canS.pureS) = true) ∧ (n = 0 ∧ zero.length = 1) ∧ K (fp fr d (.slb tk.length t)) (tk ++ [some (0,t)]) τ):=rfl
theorem zcbc (mu : Bool) (t bytes : Nat) (zero : List Value) (j1 j2 : IntKind) (n k : Int) : msK mu t bytes zero (.int j1 n) (.int j2 k) d K fr tk τ = ((0 ≤ n ∧ n ≤ k ∧ k * bytes ≤ 140737488355328 ∧ k ≤ 9223372036854775807 ∧ zero.length ≠ 0 ∧ (zero.all fun z => (ofS z).canS.pureS) = true) ∧ (bif mu then K (fp fr d (.slm τ.next 0 n.toNat zero.length)) tk (τ.push ⟨t,((List.replicate n.toNat (zero.map fun z => (ofS z).put)).flatten)⟩) else K (fp fr d (.sl (List.replicate n.toNat (zaeu (zero.map fun z => (ofS z).canS))))) tk τ)):=rfl
def apK (t sz bytes : Nat) (s : TV) (o : Option (List TV)) (d : Option Nat) (K : ap) (fr : TF) (tk : TK) (τ : TH) : Prop:=match o with
 | some xs => (match zast t sz bytes s xs tk with | some (v,tk') => K (fp fr d v) tk' τ | none => False)
 | none => False
def apT (o : Option (Option (Nat × TypeId))) (t sz bytes tok : Nat) (l xs : List TV) (d : Option Nat) (K : ap) (fr : TF) (tk : TK) (τ : TH) : Prop:=match o with
 | some (some (n,t')) => ((xs.all (fun e => e.cells.length == sz && e.pure) = true ∧ xs.length * bytes ≤ 140737488355328 ∧ xs.length ≤ maxLen) ∧ n = l.length ∧ (n = 0 ∨ t' = t) ∧ (l.all (fun e => e.cells.length == sz) = true) ∧ (l.length + xs.length) * bytes ≤ 140737488355328 ∧ l.length + xs.length ≤ maxLen) ∧
  K (fp fr d (.sla tok (l ++ xs))) (tk.set tok (some (l.length + xs.length,t))) τ
 | _ => False
theorem zcmv (t sz bytes : Nat) (s x : Operand) : tG Γ dr (.append t sz bytes s x) 0 d K fr tk τ = (sz ≠ 0 ∧ apK t sz bytes (tO fr s) (tO fr x).list d K fr tk τ):=by
 simp only [tG,tOp,apK]
 by_cases h : sz = 0
 · simp [h,opK]
 · simp only [h,if_false,ne_eq,not_false_eq_true,true_and]
   cases (tO fr x).list with
   | none => rfl
   | some xs =>
    simp only [Option.bind_some,show (0 : Nat) = 1 ↔ False from by decide,if_false]
    cases zast t sz bytes (tO fr s) xs tk <;> rfl
def amK (t sz bytes : Nat) (s : TV) (o : Option (List TV)) (d : Option Nat) (K : ap) (fr : TF) (tk : TK) (τ : TH) : Prop:=match o with
 | some xs => (match zar3 t sz bytes s xs τ with | some (v,τ') => K (fp fr d v) tk τ' | none => False)
 | none => False
def amO (b : Option Ob) (t sz bytes id n : Nat) (xs : List TV) (d : Option Nat) (K : ap) (fr : TF) (tk : TK) (τ : TH) : Prop:=match b with
 | some b => (b.t = t ∧ b.cs.length = n * sz ∧ n ≠ 0 ∧ τ.lock ≤ id ∧ (n + xs.length) * bytes ≤ 140737488355328 ∧ n + xs.length ≤ maxLen) ∧ K (fp fr d (.slm τ.next 0 (n + xs.length) sz)) tk ((τ.put id ⟨t,[]⟩).push ⟨t,b.cs ++ xs.flatMap TV.cells⟩)
 | none => False
theorem zcqc (t sz bytes : Nat) (s x : Operand) : tG Γ dr (.append t sz bytes s x) 1 d K fr tk τ = (sz ≠ 0 ∧ amK t sz bytes (tO fr s) (tO fr x).list d K fr tk τ):=by
 simp only [tG,tOp,amK]
 by_cases h : sz = 0
 · simp [h,opK]
 · simp only [h,if_false,ne_eq,not_false_eq_true,true_and]
   cases (tO fr x).list with
   | none => rfl
   | some xs =>
    simp only [Option.bind_some,if_true]
    cases zar3 t sz bytes (tO fr s) xs τ <;> rfl
theorem zbva (t sz bytes : Nat) (xs : List TV) : amK t sz bytes .slz (some xs) d K fr tk τ = ((xs ≠ [] ∧ xs.all (fun e => e.cells.length == sz && e.pure) = true) ∧ (xs.length * bytes ≤ 140737488355328 ∧ xs.length ≤ maxLen) ∧ K (fp fr d (.slm τ.next 0 xs.length sz)) tk (τ.push ⟨t,xs.flatMap TV.cells⟩)):=by
 simp only [amK,zar3]
 by_cases h : xs ≠ [] ∧ xs.all (fun e => e.cells.length == sz && e.pure) = true
 · rw [if_pos h]
   by_cases h2 : xs.length * bytes ≤ 140737488355328 ∧ xs.length ≤ maxLen
   · rw [if_pos h2]; exact propext ⟨fun q => ⟨h,h2,q⟩,fun q => q.2.2⟩
   · rw [if_neg h2]; exact propext ⟨False.elim,fun q => h2 q.2.1⟩
 · rw [if_neg h]; exact propext ⟨False.elim,fun q => h q.1⟩
theorem zbvb (t sz bytes id n : Nat) (xs : List TV) : amK t sz bytes (.slm id 0 n sz) (some xs) d K fr tk τ = ((xs ≠ [] ∧ xs.all (fun e => e.cells.length == sz && e.pure) = true) ∧ amO (τ.at id) t sz bytes id n xs d K fr tk τ):=by
 simp only [amK,zar3,amO]
 by_cases h : xs ≠ [] ∧ xs.all (fun e => e.cells.length == sz && e.pure) = true
 · rw [if_pos h]
   cases τ.at id with
   | none => exact propext ⟨False.elim,fun q => q.2⟩
   | some b =>
    simp only [Option.bind_some,true_and]
    by_cases h2 : b.t = t ∧ b.cs.length = n * sz ∧ n ≠ 0 ∧ τ.lock ≤ id ∧ (n + xs.length) * bytes ≤ 140737488355328 ∧ n + xs.length ≤ maxLen
    · rw [if_pos h2]; exact propext ⟨fun q => ⟨h,h2,q⟩,fun q => q.2.2⟩
    · rw [if_neg h2]; exact propext ⟨False.elim,fun q => h2 q.2.1⟩
 · rw [if_neg h]; exact propext ⟨False.elim,fun q => h q.1⟩
theorem zcno (t u sz bytes id n : Nat) (cs xs : List TV) : amO (some ⟨u,cs⟩) t sz bytes id n xs d K fr tk τ = ((u = t ∧ cs.length = n * sz ∧ n ≠ 0 ∧ τ.lock ≤ id ∧ (n + xs.length) * bytes ≤ 140737488355328 ∧ n + xs.length ≤ maxLen) ∧ K (fp fr d (.slm τ.next 0 (n + xs.length) sz)) tk ((τ.put id ⟨t,[]⟩).push ⟨t,cs ++ xs.flatMap TV.cells⟩)):=rfl
def atK (t sz bytes : Nat) (s : TV) (o : Option (List TV)) (d : Option Nat) (K : ap) (fr : TF) (tk : TK) (τ : TH) : Prop:=match o with
 | some xs => (match zbqt t sz bytes s xs τ with | some (v,τ') => K (fp fr d v) tk τ' | none => False)
 | none => False
def atO (b : Option Ob) (t sz bytes id n : Nat) (xs : List TV) (d : Option Nat) (K : ap) (fr : TF) (tk : TK) (τ : TH) : Prop:=match b with
 | some b => (b.t = t ∧ n * sz ≤ b.cs.length ∧ b.cs ≠ [] ∧ τ.lock ≤ id ∧ (n + xs.length) * bytes ≤ 140737488355328 ∧ n + xs.length ≤ maxLen) ∧ K (fp fr d (.slm τ.next 0 (n + xs.length) sz)) tk ((τ.put id ⟨t,[]⟩).push ⟨t,b.cs.take (n * sz) ++ xs.flatMap TV.cells⟩)
 | none => False
theorem zcqd (t sz bytes : Nat) (s x : Operand) : tG Γ dr (.append t sz bytes s x) 4 d K fr tk τ = (sz ≠ 0 ∧ atK t sz bytes (tO fr s) (tO fr x).list d K fr tk τ):=by
 simp only [tG,tOp,atK]
 by_cases h : sz = 0
 · simp [h,opK]
 · simp only [h,if_false,ne_eq,not_false_eq_true,true_and]
   cases (tO fr x).list with
   | none => rfl
   | some xs =>
    simp only [Option.bind_some,if_true]
    cases zbqt t sz bytes (tO fr s) xs τ <;> rfl
theorem zbu3 (t sz bytes id n : Nat) (xs : List TV) : atK t sz bytes (.slm id 0 n sz) (some xs) d K fr tk τ = ((xs ≠ [] ∧ xs.all (fun e => e.cells.length == sz && e.pure) = true) ∧ atO (τ.at id) t sz bytes id n xs d K fr tk τ):=by
 simp only [atK,zbqt,atO]
 by_cases h : xs ≠ [] ∧ xs.all (fun e => e.cells.length == sz && e.pure) = true
 · rw [if_pos h]
   cases τ.at id with
   | none => exact propext ⟨False.elim,fun q => q.2⟩
   | some b =>
    simp only [Option.bind_some,true_and]
    by_cases h2 : b.t = t ∧ n * sz ≤ b.cs.length ∧ b.cs ≠ [] ∧ τ.lock ≤ id ∧ (n + xs.length) * bytes ≤ 140737488355328 ∧ n + xs.length ≤ maxLen
    · rw [if_pos h2]; exact propext ⟨fun q => ⟨h,h2,q⟩,fun q => q.2.2⟩
    · rw [if_neg h2]; exact propext ⟨False.elim,fun q => h2 q.2.1⟩
 · rw [if_neg h]; exact propext ⟨False.elim,fun q => h q.1⟩
theorem zcnu (t u sz bytes id n : Nat) (cs xs : List TV) : atO (some ⟨u,cs⟩) t sz bytes id n xs d K fr tk τ = ((u = t ∧ n * sz ≤ cs.length ∧ cs ≠ [] ∧ τ.lock ≤ id ∧ (n + xs.length) * bytes ≤ 140737488355328 ∧ n + xs.length ≤ maxLen) ∧ K (fp fr d (.slm τ.next 0 (n + xs.length) sz)) tk ((τ.put id ⟨t,[]⟩).push ⟨t,cs.take (n * sz) ++ xs.flatMap TV.cells⟩)):=rfl
theorem zbu7 (t sz bytes : Nat) (xs : List TV) : apK t sz bytes .slz (some xs) d K fr tk τ = ((xs.all (fun e => e.cells.length == sz && e.pure) = true ∧ xs.length * bytes ≤ 140737488355328 ∧ xs.length ≤ maxLen) ∧ K (fp fr d (.sla tk.length xs)) (tk ++ [some (xs.length,t)]) τ):=by
 simp only [apK,zast]
 by_cases h : xs.all (fun e => e.cells.length == sz && e.pure) = true ∧ xs.length * bytes ≤ 140737488355328 ∧ xs.length ≤ maxLen
 · rw [if_pos h]; simp only [h,and_self,true_and]
 · rw [if_neg h]; simp only [h,false_and]
theorem zbu9 (t sz bytes tok : Nat) (l xs : List TV) : apK t sz bytes (.sla tok l) (some xs) d K fr tk τ = apT (tk[tok]?) t sz bytes tok l xs d K fr tk τ:=by
 simp only [apK,zast,apT]
 by_cases h : xs.all (fun e => e.cells.length == sz && e.pure) = true ∧ xs.length * bytes ≤ 140737488355328 ∧ xs.length ≤ maxLen
 · rw [if_pos h]
   cases tk[tok]? with
   | none => rfl
   | some o =>
    cases o with
    | none => rfl
    | some p =>
     obtain ⟨n,t'⟩:=p
     simp only
     by_cases h2 : n = l.length ∧ (n = 0 ∨ t' = t) ∧ (l.all (fun e => e.cells.length == sz) = true) ∧ (l.length + xs.length) * bytes ≤ 140737488355328 ∧ l.length + xs.length ≤ maxLen
     · rw [if_pos h2]; exact propext ⟨fun q => ⟨⟨h,h2⟩,q⟩,fun q => q.2⟩
     · rw [if_neg h2]; simp only [h2,and_false,false_and]
 · rw [if_neg h]
   cases tk[tok]? with
   | none => rfl
   | some o =>
    cases o with
    | none => rfl
    | some p => simp only [h,false_and]
theorem zcnq (n t' t sz bytes tok : Nat) (l xs : List TV) : apT (some (some (n,t'))) t sz bytes tok l xs d K fr tk τ = (((xs.all (fun e => e.cells.length == sz && e.pure) = true ∧ xs.length * bytes ≤ 140737488355328 ∧ xs.length ≤ maxLen) ∧ n = l.length ∧ (n = 0 ∨ t' = t) ∧ (l.all (fun e => e.cells.length == sz) = true) ∧ (l.length + xs.length) * bytes ≤ 140737488355328 ∧ l.length + xs.length ≤ maxLen) ∧ K (fp fr d (.sla tok (l ++ xs))) (tk.set tok (some (l.length + xs.length,t))) τ):=rfl
def apB (o : Option (Option (Nat × TypeId))) (t sz bytes tok t0 : Nat) (xs : List TV) (d : Option Nat) (K : ap) (fr : TF) (tk : TK) (τ : TH) : Prop:=match o with
 | some (some (n,t')) => ((xs.all (fun e => e.cells.length == sz && e.pure) = true ∧ xs.length * bytes ≤ 140737488355328 ∧ xs.length ≤ maxLen) ∧ n = 0 ∧ t0 = t ∧ sz = 1 ∧ xs ≠ []) ∧
  K (fp fr d (.sla tok xs)) (tk.set tok (some (xs.length,t))) τ
 | _ => False
theorem zbu8 (t sz bytes tok t0 : Nat) (xs : List TV) : apK t sz bytes (.slb tok t0) (some xs) d K fr tk τ = apB (tk[tok]?) t sz bytes tok t0 xs d K fr tk τ:=by
 simp only [apK,zast,apB]
 by_cases h : xs.all (fun e => e.cells.length == sz && e.pure) = true ∧ xs.length * bytes ≤ 140737488355328 ∧ xs.length ≤ maxLen
 · rw [if_pos h]
   cases tk[tok]? with
   | none => rfl
   | some o =>
    cases o with
    | none => rfl
    | some p =>
     obtain ⟨n,t'⟩:=p
     simp only
     by_cases h2 : n = 0 ∧ t0 = t ∧ sz = 1 ∧ xs ≠ []
     · rw [if_pos h2]; exact propext ⟨fun q => ⟨⟨h,h2⟩,q⟩,fun q => q.2⟩
     · rw [if_neg h2]; simp only [h2,and_false,false_and]
 · rw [if_neg h]
   cases tk[tok]? with
   | none => rfl
   | some o =>
    cases o with
    | none => rfl
    | some p => simp only [h,false_and]
theorem zcnp (n t' t sz bytes tok t0 : Nat) (xs : List TV) : apB (some (some (n,t'))) t sz bytes tok t0 xs d K fr tk τ = (((xs.all (fun e => e.cells.length == sz && e.pure) = true ∧ xs.length * bytes ≤ 140737488355328 ∧ xs.length ≤ maxLen) ∧ n = 0 ∧ t0 = t ∧ sz = 1 ∧ xs ≠ []) ∧ K (fp fr d (.sla tok xs)) (tk.set tok (some (xs.length,t))) τ):=rfl
def asK (t : Nat) (s x : TV) (d : Option Nat) (K : ap) (fr : TF) (tk : TK) (τ : TH) : Prop:=match x with | .str b => apK t 1 1 s (some (dd b)) d K fr tk τ | _ => False
theorem zcqe (t : Nat) (s x : Operand) : tG Γ dr (.appendS t s x) m d K fr tk τ = asK t (tO fr s) (tO fr x) d K fr tk τ:=by
 simp only [tG,tOp,asK,apK]
 cases tO fr x with
 | str b => simp only; cases zast t 1 1 (tO fr s) (dd b) tk <;> rfl
 | _ => rfl
theorem zcb9 (t : Nat) (s : TV) (b : ByteArray) : asK t s (.str b) d K fr tk τ = apK t 1 1 s (some (dd b)) d K fr tk τ:=rfl
def tbA (t : Nat) (x : TV) (d : Option Nat) (K : ap) (fr : TF) (tk : TK) (τ : TH) : Prop:=match x with | .str s => K (fp fr d (if s.size = 0 then .slb tk.length t else .sla tk.length (dd s))) (tk ++ [some (s.size,t)]) τ | _ => False
theorem zcsm (t : Nat) (x : Operand) : tG Γ dr (.toBytes t x) 2 d K fr tk τ = tbA t (tO fr x) d K fr tk τ:=by
 simp only [tG,tOp,tbA]
 cases tO fr x <;> rfl
theorem zcal (t : Nat) (s : ByteArray) : tbA t (.str s) d K fr tk τ = K (fp fr d (if s.size = 0 then .slb tk.length t else .sla tk.length (dd s))) (tk ++ [some (s.size,t)]) τ:=rfl
theorem zccn (t : Nat) : tO fr (.tmp t) = lkp fr t:=rfl
theorem zb2b (k : IntKind) (n : Int) : tO fr (.const (.int k n)) = .int k n:=rfl
theorem zbvq (c : Bool) : tO fr (.const (.bool c)) = .bool c:=rfl
theorem zb2a (s : ByteArray) : tO fr (.const (.string s)) = .str s:=rfl
theorem zbvn : tO fr (.const (.slice none 0 0)) = .slz:=rfl
theorem zbvp : tO fr (.const .nilFunc) = .nilF:=rfl
theorem zbvo : tO fr (.const .nilIface) = .nilI:=rfl
theorem zb19 (f : FuncId) : tO fr (.func f) = .func f [] []:=rfl
theorem zb2c (cs : List Value) : tO fr (.const (.agg cs.toArray)) = .agg (cs.map ofS):=rfl
theorem zbst (k : IntKind) (n : Int) : ofS (.int k n) = .int k n:=rfl
theorem zcpf (c : Bool) : ofS (.bool c) = .bool c:=rfl
theorem zbss (s : ByteArray) : ofS (.string s) = .str s:=rfl
theorem zcoo : ofS (.pointer none) = .nilP:=rfl
theorem zcop : ofS (.slice none 0 0) = .slz:=rfl
theorem zbs8 (t : Nat) (v : TV) (l : TF) : lkp ((t,v) :: l) t = v:=by simp [lkp]
theorem zcof (t k : Nat) (v : TV) (l : TF) (h : (t = k) = False) : lkp ((k,v) :: l) t = lkp l t:=by simp [lkp,h]
theorem zcrx (t : Nat) (v : TV) : fp fr (some t) v = (t,v) :: fr:=rfl
theorem zcsg (v : TV) : fp fr none v = fr:=rfl
theorem zb0s : sel lv fr = lv.map fun t => (t,lkp fr t):=rfl
theorem zcnt (k : Nat) : zbwj k [] = []:=rfl
theorem zcq1 (k : Nat) (v : TV) (l : List TV) : zbwj k (v :: l) = (k,v) :: zbwj (k + 1) l:=rfl
end
theorem zcs8  (b : Bool) : TV.cells  (TV.bool b) = [TV.bool b]:=rfl
theorem zcqu  (k : IntKind) (n : Int) : TV.cells  (TV.int k n) = [TV.int k n]:=rfl
theorem zcqy  (s : ByteArray) : TV.cells  (TV.str s) = [TV.str s]:=rfl
theorem zcqx   : TV.cells  TV.slz = [TV.slz ]:=rfl
theorem zcnl  (l : List TV) : TV.cells  (TV.sl l) = [TV.sl l]:=rfl
theorem zcqv  (k : Nat) (l : List TV) : TV.cells  (TV.sla k l) = [TV.sla k l]:=rfl
theorem zcqw  (id off n sz : Nat) : TV.cells  (TV.slm id off n sz) = [TV.slm id off n sz]:=rfl
theorem zcta   : TV.cells  TV.nilF = [TV.nilF ]:=rfl
theorem zcs9  (f : FuncId) (a b : List TV) : TV.cells  (TV.func f a b) = [TV.func f a b]:=rfl
theorem zcqt  (cs : List TV) : TV.cells  (TV.agg cs) = cs:=rfl
theorem zcoq  (b : Bool) : TV.one  (TV.bool b) = true:=rfl
theorem zbsl  (k : IntKind) (n : Int) : TV.one  (TV.int k n) = true:=rfl
theorem zbsh  (s : ByteArray) : TV.one  (TV.str s) = true:=rfl
theorem zcot   : TV.one  TV.nilP = true:=rfl
theorem zbsi   : TV.one  TV.slz = true:=rfl
theorem zb09  (l : List TV) : TV.one  (TV.sl l) = true:=rfl
theorem zbsj  (t : TypeId) (l : List TV) : TV.one  (TV.slo t l) = true:=rfl
theorem zbsk  (id off n sz : Nat) : TV.one  (TV.slm id off n sz) = true:=rfl
theorem zcos   : TV.one  TV.nilF = true:=rfl
theorem zcor  (f : FuncId) (a b : List TV) : TV.one  (TV.func f a b) = true:=rfl
theorem zcrq  (k : IntKind) (n : Int) : TV.known  (TV.int k n) = true:=rfl
theorem zcrs  (s : ByteArray) : TV.known  (TV.str s) = true:=rfl
theorem zcn7  (l : List TV) : TV.known  (TV.sl l) = true:=rfl
theorem zcrr  (k : Nat) (l : List TV) : TV.known  (TV.sla k l) = true:=rfl
theorem zcqp  (b : Bool) : TV.canS  (TV.bool b) = TV.bool b:=rfl
theorem zcm9  (k : IntKind) (n : Int) : TV.canS  (TV.int k n) = TV.int k n:=rfl
theorem zcnd  (s : ByteArray) : TV.canS  (TV.str s) = TV.str s:=rfl
theorem zcna  (id off : Nat) : TV.canS  (TV.ptr id off) = TV.ptr id off:=rfl
theorem zcnc   : TV.canS  TV.slz = .sl []:=rfl
theorem zbum  (l : List TV) : TV.canS  (TV.sl l) = TV.sl l:=rfl
theorem zcnb  (id off n sz : Nat) : TV.canS  (TV.slm id off n sz) = TV.slm id off n sz:=rfl
theorem zcm7  (k : IntKind) (n : Int) : TV.canA  (TV.int k n) = TV.int k n:=rfl
theorem zcm8  (s : ByteArray) : TV.canA  (TV.str s) = TV.str s:=rfl
theorem zcqo   : TV.canA  TV.nilI = TV.nilI :=rfl
theorem zcm6  (cs : List TV) : TV.canA  (TV.agg cs) = .agg (cs.map TV.canS):=rfl
theorem zcqq  (b : Bool) : TV.canT  (TV.bool b) = TV.bool b:=rfl
theorem zcnf  (k : IntKind) (n : Int) : TV.canT  (TV.int k n) = TV.int k n:=rfl
theorem zcni  (s : ByteArray) : TV.canT  (TV.str s) = TV.str s:=rfl
theorem zcng  (id off : Nat) : TV.canT  (TV.ptr id off) = TV.ptr id off:=rfl
theorem zbul  (l : List TV) : TV.canT  (TV.sl l) = TV.sl l:=rfl
theorem zcnh  (k : Nat) (l : List TV) : TV.canT  (TV.sla k l) = .sl l:=rfl
theorem zcqr  (f : FuncId) (a b : List TV) : TV.canT  (TV.func f a b) = TV.func f a b:=rfl
theorem zcqs   : TV.canT  TV.nilI = TV.nilI :=rfl
theorem zcne  (cs : List TV) : TV.canT  (TV.agg cs) = .agg (cs.map TV.canS):=rfl
theorem zcnj  (cs : List TV) : TV.canT  (TV.tup cs) = .tup (cs.map TV.canA):=rfl
theorem zcou  (k : IntKind) (n : Int) : TV.part  (TV.int k n) = TV.int k n:=rfl
theorem zcow  (s : ByteArray) : TV.part  (TV.str s) = TV.str s:=rfl
theorem zbse  (l : List TV) : TV.part  (TV.sl l) = TV.sl l:=rfl
theorem zcov  (k : Nat) (l : List TV) : TV.part  (TV.sla k l) = .sl l:=rfl
theorem zco3  (b : Bool) : TV.put  (TV.bool b) = TV.bool b:=rfl
theorem zbsa  (k : IntKind) (n : Int) : TV.put  (TV.int k n) = TV.int k n:=rfl
theorem zbr6  (s : ByteArray) : TV.put  (TV.str s) = TV.str s:=rfl
theorem zco6   : TV.put  TV.nilP = TV.nilP :=rfl
theorem zbr7   : TV.put  TV.slz = TV.slz :=rfl
theorem zb03  (l : List TV) : TV.put  (TV.sl l) = TV.sl l:=rfl
theorem zbr9  (k : Nat) (l : List TV) : TV.put  (TV.sla k l) = .sl l:=rfl
theorem zbr8  (id off n sz : Nat) : TV.put  (TV.slm id off n sz) = TV.slm id off n sz:=rfl
theorem zco5   : TV.put  TV.nilF = TV.nilF :=rfl
theorem zco4  (f : FuncId) (a b : List TV) : TV.put  (TV.func f a b) = TV.func f a b:=rfl
theorem zbr1  (b : Bool) : TV.rd  (TV.bool b) = TV.bool b:=rfl
theorem zb01  (k : IntKind) (n : Int) : TV.rd  (TV.int k n) = TV.int k n:=rfl
theorem zb0x  (s : ByteArray) : TV.rd  (TV.str s) = TV.str s:=rfl
theorem zb0y   : TV.rd  TV.slz = TV.slz :=rfl
theorem zca1  (l : List TV) : TV.rd  (TV.sl l) = TV.sl l:=rfl
theorem zb0z  (t : TypeId) (l : List TV) : TV.rd  (TV.slo t l) = .sl l:=rfl
theorem zb00  (id off n sz : Nat) : TV.rd  (TV.slm id off n sz) = TV.slm id off n sz:=rfl
theorem zbr0  (f : FuncId) (a b : List TV) : TV.rd  (TV.func f a b) = TV.func f a b:=rfl
theorem zbs9  (l : List TV) : TV.list  (TV.sl l) = some l:=rfl
theorem zcs1  (b : Bool) : TV.pureS  (TV.bool b) = true:=rfl
theorem zcrf  (k : IntKind) (n : Int) : TV.pureS  (TV.int k n) = true:=rfl
theorem zcrg  (s : ByteArray) : TV.pureS  (TV.str s) = true:=rfl
theorem zcoz  (l : List TV) : TV.pureS  (TV.sl l) = true:=rfl
theorem zco1  (k : IntKind) (n : Int) : TV.pure  (TV.int k n) = true:=rfl
theorem zco2  (s : ByteArray) : TV.pure  (TV.str s) = true:=rfl
theorem zco0  (cs : List TV) : TV.pure  (TV.agg cs) = cs.all TV.pureS:=rfl
theorem zctm (n : Nat) (b : Bool) : TV.under n (TV.bool b) = true:=by simp [TV.under]
theorem zbs5 (n m : Nat) (b : Bool) : TV.lt n m (TV.bool b) = true:=by simp [TV.lt]
theorem zcr0 (n : Nat) (k : IntKind) (q : Int) : TV.under n (TV.int k q) = true:=by simp [TV.under]
theorem zb1k (n m : Nat) (k : IntKind) (q : Int) : TV.lt n m (TV.int k q) = true:=by simp [TV.lt]
theorem zcr5 (n : Nat) (s : ByteArray) : TV.under n (TV.str s) = true:=by simp [TV.under]
theorem zb1e (n m : Nat) (s : ByteArray) : TV.lt n m (TV.str s) = true:=by simp [TV.lt]
theorem zctd (n : Nat)  : TV.under n TV.nilP = true:=by simp [TV.under]
theorem zcr1 (n : Nat) (id off : Nat) : TV.under n (TV.ptr id off) = decide (id < n):=by simp [TV.under]
theorem zb1j (n m : Nat) (id off : Nat) : TV.lt n m (TV.ptr id off) = decide (id < n):=by simp [TV.lt]
theorem zcr4 (n : Nat)  : TV.under n TV.slz = true:=by simp [TV.under]
theorem zb1f (n m : Nat)  : TV.lt n m TV.slz = true:=by simp [TV.lt]
theorem zcp9 (n : Nat) (l : List TV) : TV.under n (TV.sl l) = true:=by simp [TV.under]
theorem zcbf (n m : Nat) (l : List TV) : TV.lt n m (TV.sl l) = true:=by simp [TV.lt]
theorem zb1i (n m : Nat) (k : Nat) (l : List TV) : TV.lt n m (TV.sla k l) = decide (k < m):=by simp [TV.lt]
theorem zb1h (n m : Nat) (k : Nat) (t : TypeId) : TV.lt n m (TV.slb k t) = decide (k < m):=by simp [TV.lt]
theorem zcr3 (n : Nat) (t : TypeId) (l : List TV) : TV.under n (TV.slo t l) = true:=by simp [TV.under]
theorem zcr2 (n : Nat) (id off q sz : Nat) : TV.under n (TV.slm id off q sz) = decide (id < n):=by simp [TV.under]
theorem zb1g (n m : Nat) (id off q sz : Nat) : TV.lt n m (TV.slm id off q sz) = decide (id < n):=by simp [TV.lt]
theorem zcto (n : Nat)  : TV.under n TV.nilF = true:=by simp [TV.under]
theorem zctn (n : Nat) (f : FuncId) (a b : List TV) : TV.under n (TV.func f a b) = (ju n a && ju n b):=by simp [TV.under]
theorem zbs4 (n m : Nat) (f : FuncId) (a b : List TV) : TV.lt n m (TV.func f a b) = (ltL n m a && ltL n m b):=by simp [TV.lt]
theorem zctp (n : Nat)  : TV.under n TV.nilI = true:=by simp [TV.under]
theorem zcrz (n : Nat) (cs : List TV) : TV.under n (TV.agg cs) = ju n cs:=by simp [TV.under]
theorem zb1l (n m : Nat) (cs : List TV) : TV.lt n m (TV.agg cs) = ltL n m cs:=by simp [TV.lt]
theorem zcr6 (n : Nat) (cs : List TV) : TV.under n (TV.tup cs) = ju n cs:=by simp [TV.under]
theorem zctl (n : Nat) : ju n [] = true:=by simp [ju]
theorem zc6c (n : Nat) (v : TV) (l : List TV) : ju n (v :: l) = (v.under n && ju n l):=by simp [ju]
theorem zbs6 (n m : Nat) : ltL n m [] = true:=by simp [ltL]
theorem zcoh (n m : Nat) (v : TV) (l : List TV) : ltL n m (v :: l) = (v.lt n m && ltL n m l):=by simp [ltL]
theorem mo {Γ : FuncId → Option TG} {lv : List Nat} {a : TC} {Q : TEx → ap} {fr : TF} {tk : TK} {τ : TH} (h : ∀ LQ : TEx → ap,(∀ fr' tk' τ',LQ .normal fr' tk' τ' = zb1y lv tk τ fr' tk' τ' (tW Γ (.loop lv a) Q)) → (LQ .ret = Q .ret) → (∀ id,LQ (.exit id) = Q (.exit id)) → tW Γ a LQ (sel lv fr) tk τ) : tW Γ (.loop lv a) Q fr tk τ:=by
 rw [zb4d]
 exact h _ (fun fr' tk' τ' => zb49 Γ fr' tk tk' τ τ' a lv Q) rfl fun _ => rfl
def za9c : List (Nat × TG) → FuncId → Option TG
 | [],_ => none
 | (k,g) :: r,f => if f = k then some g else za9c r f
def zb8f (P : Program) (l : List (Nat × TG)) : Prop:=∀ p ∈ l,match p.2 with
 | .code fn => ∃ H,th P H p.1 = some (fn.n,fn.c.erase,fn.rs)
 | .prim g => ∀ args τ r τ',g args τ = some (r,τ') → zbwl P p.1 args τ r τ'
theorem zb5m {P : Program} : zb8f P []:=fun p hp => by simp at hp
theorem aw {P : Program} {H : List (Nat × DH)} {f n : Nat} {c : TC} {rs : List R} {fz : Bool} (h : th P H f = some (n,c.erase,rs)) {l : List (Nat × TG)} (k : zb8f P l) : zb8f P ((f,.code ⟨n,c,rs,fz⟩) :: l):=fun p hp => by
 rcases List.mem_cons.1 hp with rfl | hp
 · exact ⟨H,h⟩
 · exact k p hp
theorem zb94 {P : Program} {f : Nat} {g : List TV → TH → Option (TV × TH)} (h : ∀ args τ r τ',g args τ = some (r,τ') → zbwl P f args τ r τ') {l : List (Nat × TG)} (k : zb8f P l) : zb8f P ((f,.prim g) :: l):=fun p hp => by
 rcases List.mem_cons.1 hp with rfl | hp
 · exact h
 · exact k p hp
theorem zcq6 : ∀ {l : List (Nat × TG)} {f : Nat} {g : TG},za9c l f = some g → (f,g) ∈ l
 | [],_,_,h => by cases h
 | (k,g) :: r,f,g',h => by
  simp only [za9c] at h
  split at h
  · rename_i e; injection h with h; subst e h; simp
  · exact List.mem_cons_of_mem _ (zcq6 h)
theorem zbx8 {P : Program} {l : List (Nat × TG)} (h : zb8f P l) : GOK P (za9c l):=fun f => by
 cases hq : za9c l f with
 | none => trivial
 | some g =>
  have:=h _ (zcq6 hq)
  cases g with
  | code fn => exact this
  | prim g => exact this
section
variable (τ : TH) (b c : Ob) (id k n : Nat)
def zb58 (o : Option Ob) (off : Nat) : Option TV:=match o with | some b => (b.cs[off]?).map TV.rd | none => none
def zclx (o : Option Ob) (off n : Nat) : Option (List TV):=match o with | some b => if off + n ≤ b.cs.length then some (((b.cs.drop off).take n).map TV.rd) else none | none => none
theorem zcpv (off : Nat) : zb2v τ id off = zb58 (τ.at id) off:=by unfold zb2v zb58; cases τ.at id <;> rfl
theorem zbqb (off : Nat) : nw τ id off n = zclx (τ.at id) off n:=by unfold nw zclx; cases τ.at id <;> rfl
theorem zcs7 (t : TypeId) (cs : List TV) (off : Nat) : zb58 (some ⟨t,cs⟩) off = (cs[off]?).map TV.rd:=rfl
theorem zcrk (t : TypeId) (cs : List TV) (off : Nat) : zclx (some ⟨t,cs⟩) off n = if off + n ≤ cs.length then some (((cs.drop off).take n).map TV.rd) else none:=rfl
theorem zcsp (h : id = τ.next) : (τ.push b).at id = some b:=by subst h; exact zced
theorem zcq2 (h : id < τ.next) : (τ.push b).at id = τ.at id:=zb7h h
theorem ak : (τ.push b).next = τ.next + 1:=jm
theorem aa : (τ.put id b).next = τ.next:=br
theorem ww : (τ.locked n).at id = τ.at id:=rfl
theorem aq : (τ.push b).lock = τ.lock:=rfl
theorem ag : (τ.put id b).lock = τ.lock:=rfl
theorem zcb8 (h : id < τ.next) : (τ.put id b).at id = some b:=zb7m h
theorem zcnv (h : (k = id) = False) : (τ.put id b).at k = τ.at k:=zb7g (by simpa using h)
theorem oc : (τ.put id b).put id c = τ.put id c:=by simp [TH.put]
theorem zcrc (h : id = τ.next) : (τ.push b).put id c = τ.push c:=by subst h; simp [TH.put,TH.push,TH.next,List.set_append_right]
theorem zcrd (h : id < τ.next) : (τ.push b).put id c = (τ.put id c).push b:=by simp only [TH.put,TH.push,TH.next] at *; rw [List.set_append_left _ _ h]
theorem zcoj (h : n ≤ τ.next) : (τ.push b).cut n = τ.cut n:=by simp only [TH.cut,TH.push,TH.next] at *; rw [List.take_append_of_le_length h]
theorem fx (h : τ.next ≤ n) : τ.cut n = τ:=zcda h
end
section
variable (k : IntKind) (x y : Int) (s u : ByteArray)
theorem zb0h : ax .add (.int k x) (.int k y) = some (.int k (k.wrap (x + y))):=by simp [ax,a8,iv,ofS]
theorem zbz3 : ax .sub (.int k x) (.int k y) = some (.int k (k.wrap (x - y))):=by simp [ax,a8,iv,ofS]
theorem zbz9 : ax .mul (.int k x) (.int k y) = some (.int k (k.wrap (x * y))):=by simp [ax,a8,iv,ofS]
theorem zb0g : ax .and (.int k x) (.int k y) = some (.int k (k.wrap (BitVec.ofInt k.bits x &&& BitVec.ofInt k.bits y).toNat)):=by simp [ax,a8,iv,ofS]
theorem zcah : ax .or (.int k x) (.int k y) = some (.int k (k.wrap (BitVec.ofInt k.bits x ||| BitVec.ofInt k.bits y).toNat)):=by simp [ax,a8,iv,ofS]
theorem zbz2 : ax .xor (.int k x) (.int k y) = some (.int k (k.wrap (BitVec.ofInt k.bits x ^^^ BitVec.ofInt k.bits y).toNat)):=by simp [ax,a8,iv,ofS]
theorem zb0a : ax .lss (.int k x) (.int k y) = some (.bool (decide (x < y))):=by simp [ax,a8,iv,ofS]
theorem zb0b : ax .leq (.int k x) (.int k y) = some (.bool (decide (x ≤ y))):=by simp [ax,a8,iv,ofS]
theorem zb0c : ax .gtr (.int k x) (.int k y) = some (.bool (decide (y < x))):=by simp [ax,a8,iv,ofS]
theorem zb0d : ax .geq (.int k x) (.int k y) = some (.bool (decide (y ≤ x))):=by simp [ax,a8,iv,ofS]
theorem zb0e : ax .eql (.int k x) (.int k y) = some (.bool (decide (x = y))):=by simp [ax,a8,iv,ofS]; rfl
theorem zbz8 : ax .neq (.int k x) (.int k y) = some (.bool (decide (¬ x = y))):=by simp [ax,a8,iv,ofS]; rfl
theorem zbz7 : ax .quo (.int k x) (.int k y) = if y = 0 then none else some (.int k (k.wrap (x.tdiv y))):=by simp [ax,a8,iv,ofS]; split <;> simp [ofS]
theorem zbz6 : ax .rem (.int k x) (.int k y) = if y = 0 then none else some (.int k (x.tmod y)):=by simp [ax,a8,iv,ofS]; split <;> simp [ofS]
theorem zbz5 (j : IntKind) : ax .shl (.int k x) (.int j y) = if y < 0 then none else some (.int k (k.wrap (x * 2 ^ (Nat.min y.toNat k.bits)))):=by simp [ax,a8,zb3r,ofS]; split <;> simp [ofS]
theorem zbz4 (j : IntKind) : ax .shr (.int k x) (.int j y) = if y < 0 then none else some (.int k (x.fdiv (2 ^ (Nat.min y.toNat k.bits)))):=by simp [ax,a8,zb3r,ofS]; split <;> simp [ofS]
theorem zb0f : ax .add (.str s) (.str u) = if 9223372036854775807 < ((s.size + u.size : Nat) : Int) then none else some (.str (s ++ u)):=by
 have e : IntKind.i64.max = 9223372036854775807:=by decide
 simp only [ax,zbrj,e]
 split
 · rfl
 · rfl
theorem zc52 {s u : ByteArray} : s.toList = u.toList ↔ s = u:=by
 constructor
 · intro h
   rw [ByteArray.toList_eq,ByteArray.toList_eq] at h
   cases s; cases u; simp_all
 · rintro rfl; rfl
theorem zbqs : ax .eql (.str s) (.str u) = some (.bool (decide (s = u))):=by simp only [ax,zbrj,Option.map_some,ofS]; congr 2; by_cases h : s = u <;> simp [h,zc52]
theorem zbqr : ax .neq (.str s) (.str u) = some (.bool (decide (¬ s = u))):=by simp only [ax,zbrj,Option.map_some,ofS]; congr 2; by_cases h : s = u <;> simp [h,zc52]
theorem zbzu (b : Bool) : tun .not (.bool b) = some (.bool !b):=rfl
def zcfw (k : IntKind) (x : Int) : Int:=k.wrap (BitVec.ofInt k.bits (if k.signed then -1 else k.max) ^^^ BitVec.ofInt k.bits x).toNat
theorem zbzt : tun .xor (.int k x) = some (.int k (zcfw k x)):=rfl
theorem zbzv : tun .neg (.int k x) = some (.int k (k.wrap (0 - x))):=rfl
end
theorem zc5u (c : Prop) [Decidable c] (v : TV) (d : Option Nat) (K : ap) (fr : TF) (tk : TK) (τ : TH) : pK (if c then none else some v) d K fr tk τ = (¬ c ∧ K (fp fr d v) tk τ):=by unfold pK; by_cases h : c <;> simp [h]
theorem zbs2 {g n k : Nat} (h : g < n) : (g < n + k) = True:=by simp; omega
theorem zbtf {g n k : Nat} (h : g ≤ n) : (g ≤ n + k) = True:=by simp; omega
theorem zbs1 (n k : Nat) : (n < n + k) = (0 < k):=by simp
theorem zbs3 (n j k : Nat) : (n + j < n + k) = (j < k):=by simp
theorem zbte (n k : Nat) : (n ≤ n + k) = True:=by simp
theorem zbuc (n j k : Nat) : (n + j = n + k) = (j = k):=by simp
theorem zc41 (n k : Nat) : (n = n + k) = (k = 0):=by simp
theorem zc6i (n k : Nat) : (n + k = n) = (k = 0):=by simp
theorem zc6n (n : Nat) : (n < n) = False:=by simp
theorem zbve (n j k : Nat) : n + j + k = n + (j + k):=Nat.add_assoc n j k
theorem zcp8 (i o j p : Nat) : TV.same (.ptr i o) (.ptr j p) = (i == j && o == p):=rfl
theorem zcp7 (k j : IntKind) (n m : Int) : TV.same (.int k n) (.int j m) = (decide (k = j) && decide (n = m)):=rfl
theorem zcpg (a b : ByteArray) : TV.same (.str a) (.str b) = decide (a = b):=rfl
theorem zcrn (f g : FuncId) (a b c d : List TV) : TV.same (.func f a b) (.func g c d) = (decide (f = g) && (zbwg a c && zbwg b d)):=rfl
theorem zcrm : zbwg [] [] = true:=rfl
theorem zcs5 (v w : TV) (r s : List TV) : zbwg (v :: r) (w :: s) = (v.same w && zbwg r s):=rfl
theorem zcrj (fr : TF) (τ : TH) (d : Nat) (i : I) (g : Option (Nat × Bool)) : zcdf ⟨some d,i,g⟩ fr τ = zcfs (zb9z i fr τ) (lkp fr d):=rfl
theorem zcrh (fr : TF) (τ : TH) (x : Operand) : zb9z (.load1 x) fr τ = rdO (tO fr x) τ:=rfl
theorem zbr2 (τ : TH) (id off : Nat) : rdO (.ptr id off) τ = rdB (τ.at id) off:=rfl
theorem zco7 (t : TypeId) (cs : List TV) (off : Nat) : rdB (some ⟨t,cs⟩) off = (cs[off]?).map TV.rd:=rfl
theorem zcrl (v w : TV) : zcfs (some v) w = v.same w:=rfl
theorem zcol : decide True = true:=rfl
theorem zcok : decide False = false:=rfl
theorem TT0 : type_of% (ai (ai (ai @zb15 (ai @zb16 @zccj)) (ai (ai @zcck @ma) (ai @zcpr @zcsc))) (ai (ai (ai @zbqu @zcpt) (ai @zbqv @zcps)) (ai (ai @zbvj @zcci) (ai @zb17 @zbvl)))):=(ai (ai (ai @zb15 (ai @zb16 @zccj)) (ai (ai @zcck @ma) (ai @zcpr @zcsc))) (ai (ai (ai @zbqu @zcpt) (ai @zbqv @zcps)) (ai (ai @zbvj @zcci) (ai @zb17 @zbvl))))
theorem TT1 : type_of% (ai (ai (ai @zbvk (ai @zbus @zbqg)) (ai @zbqf (ai @zbqh @zcm3))) (ai (ai @zcm2 (ai @zcqn @zcm4)) (ai (ai @zbu1 @zb0u) (ai @zb0v @zbrq)))):=(ai (ai (ai @zbvk (ai @zbus @zbqg)) (ai @zbqf (ai @zbqh @zcm3))) (ai (ai @zcm2 (ai @zcqn @zcm4)) (ai (ai @zbu1 @zb0u) (ai @zb0v @zbrq))))
theorem TT2 : type_of% (ai (ai (ai @zcnz (ai @zcp5 @zbzx)) (ai @zbzy (ai @zbzw @zc73))) (ai (ai @zcvm (ai @zctc @zc54)) (ai (ai @zctj @zbr3) (ai @zb0k @zbq0)))):=(ai (ai (ai @zcnz (ai @zcp5 @zbzx)) (ai @zbzy (ai @zbzw @zc73))) (ai (ai @zcvm (ai @zctc @zc54)) (ai (ai @zctj @zbr3) (ai @zb0k @zbq0))))
theorem TT3 : type_of% (ai (ai (ai @zbqz (ai @zbq2 @zcpn)) (ai @zcpo (ai @zcbu @zcbx))) (ai (ai @zcbv (ai @zcbw @zb2k)) (ai (ai @zcpy @zcsf) (ai @zcr9 @zbqk)))):=(ai (ai (ai @zbqz (ai @zbq2 @zcpn)) (ai @zcpo (ai @zcbu @zcbx))) (ai (ai @zcbv (ai @zcbw @zb2k)) (ai (ai @zcpy @zcsf) (ai @zcr9 @zbqk))))
theorem TT4 : type_of% (ai (ai (ai @zcpz @zcp0) (ai @zbql @zbqj)) (ai (ai @zbvx @zbvw) (ai @zcmw @zbue))):=(ai (ai (ai @zcpz @zcp0) (ai @zbql @zbqj)) (ai (ai @zbvx @zbvw) (ai @zcmw @zbue)))
theorem TT5 : type_of% (ai (ai (ai @zbsf (ai @zb07 @zccp)) (ai @zb2f (ai @zcpd @zb2e))) (ai (ai @zbsd (ai @zbvv @zbth)) (ai (ai @zcn8 @zbvt) (ai @zbtg @zcn9)))):=(ai (ai (ai @zbsf (ai @zb07 @zccp)) (ai @zb2f (ai @zcpd @zb2e))) (ai (ai @zbsd (ai @zbvv @zbth)) (ai (ai @zcn8 @zbvt) (ai @zbtg @zcn9))))
theorem TT6 : type_of% (ai (ai @zcmz @zcpc) (ai @zccs (ai @zccq @zb1u))):=(ai (ai @zcmz @zcpc) (ai @zccs (ai @zccq @zb1u)))
theorem TT7 : type_of% (ai (ai (ai @zc9p @zb2j) (ai @zbui (ai @zc4t @zbtc))) (ai (ai @zcod (ai @zcp2 @zcri)) (ai @zbru (ai @zbrv @zbrr)))):=(ai (ai (ai @zc9p @zb2j) (ai @zbui (ai @zc4t @zbtc))) (ai (ai @zcod (ai @zcp2 @zcri)) (ai @zbru (ai @zbrv @zbrr))))
theorem TT8 : type_of% (ai (ai @zbrs (ai @zb0w @zbrt)) (ai @zbrw (ai @zbt9 @zcny))):=(ai (ai @zbrs (ai @zb0w @zbrt)) (ai @zbrw (ai @zbt9 @zcny)))
theorem TT9 : type_of% (ai (ai (ai @zcmx (ai @zbt7 @zcsj)) (ai @zbtq (ai @zcqg @zb1n))) (ai (ai @zbtp (ai @zcsk @zcbo)) (ai @zcsl (ai @zcar @zcqk)))):=(ai (ai (ai @zcmx (ai @zbt7 @zcsj)) (ai @zbtq (ai @zcqg @zb1n))) (ai (ai @zbtp (ai @zcsk @zcbo)) (ai @zcsl (ai @zcar @zcqk))))
theorem zc9n : type_of% (ai (ai (ai @zb0p (ai @zbra @zcaj)) (ai @zcai (ai @zcak @zbsy))) (ai (ai @zb2h (ai @zb1m @zb2i)) (ai (ai @zcob @zbtd) (ai @zcoa @zcoc)))):=(ai (ai (ai @zb0p (ai @zbra @zcaj)) (ai @zcai (ai @zcak @zbsy))) (ai (ai @zb2h (ai @zb1m @zb2i)) (ai (ai @zcob @zbtd) (ai @zcoa @zcoc))))
theorem zc9m : type_of% (ai (ai (ai @zcmy @zbvy) (ai @zcse (ai @zcti @zcg2))) (ai (ai @zckt @zbvr) (ai @zcqm (ai @zcsh @zcpk)))):=(ai (ai (ai @zcmy @zbvy) (ai @zcse (ai @zcti @zcg2))) (ai (ai @zckt @zbvr) (ai @zcqm (ai @zcsh @zcpk))))
theorem zc9l : type_of% (ai (ai (ai @zcsi (ai @zcbq @zccr)) (ai @zbvs (ai @zbq9 @zcpi))) (ai (ai @zbvu (ai @zbqe @zcp1)) (ai @zcqb (ai @zcqa @zcm0)))):=(ai (ai (ai @zcsi (ai @zcbq @zccr)) (ai @zbvs (ai @zbq9 @zcpi))) (ai (ai @zbvu (ai @zbqe @zcp1)) (ai @zcqb (ai @zcqa @zcm0))))
theorem zc9k : type_of% (ai (ai (ai (ai @zbrk @zcp6) (ai @zcqf @zcb7)) (ai (ai @zcb6 @zcb5) (ai @zcth @zc50))) (ai (ai (ai @zcqh @zcqi) (ai @zcqj @zcbd)) (ai (ai @zcbc @zcmv) (ai @zcqc @zbva)))):=(ai (ai (ai (ai @zbrk @zcp6) (ai @zcqf @zcb7)) (ai (ai @zcb6 @zcb5) (ai @zcth @zc50))) (ai (ai (ai @zcqh @zcqi) (ai @zcqj @zcbd)) (ai (ai @zcbc @zcmv) (ai @zcqc @zbva))))
theorem zc9j : type_of% (ai (ai (ai @zbvb (ai @zcno @zcqd)) (ai (ai @zbu3 @zcnu) (ai @zbu7 @zbu9))) (ai (ai @zcnq (ai @zbu8 @zcnp)) (ai (ai @zcqe @zcb9) (ai @zcsm @zcal)))):=(ai (ai (ai @zbvb (ai @zcno @zcqd)) (ai (ai @zbu3 @zcnu) (ai @zbu7 @zbu9))) (ai (ai @zcnq (ai @zbu8 @zcnp)) (ai (ai @zcqe @zcb9) (ai @zcsm @zcal))))
theorem zc9i : type_of% (ai (ai (ai @zccn (ai @zb2b @zbvq)) (ai @zb2a (ai @zbvn @zbvp))) (ai (ai @zbvo (ai @zb19 @zb2c)) (ai (ai @zbst @zcpf) (ai @zbss @zcoo)))):=(ai (ai (ai @zccn (ai @zb2b @zbvq)) (ai @zb2a (ai @zbvn @zbvp))) (ai (ai @zbvo (ai @zb19 @zb2c)) (ai (ai @zbst @zcpf) (ai @zbss @zcoo))))
theorem zc9h : type_of% (ai (ai (ai @zcop @zbs8) (ai @zcof (ai @zcrx @zcsg))) (ai (ai @zb0s (ai @zcnt @zcq1)) (ai @zcs8 (ai @zcqu @zcqy)))):=(ai (ai (ai @zcop @zbs8) (ai @zcof (ai @zcrx @zcsg))) (ai (ai @zb0s (ai @zcnt @zcq1)) (ai @zcs8 (ai @zcqu @zcqy))))
theorem zc9g : type_of% (ai (ai (ai @zcqx @zcnl) (ai @zcqv @zcqw)) (ai (ai @zcta @zcs9) (ai @zcqt @zcoq))):=(ai (ai (ai @zcqx @zcnl) (ai @zcqv @zcqw)) (ai (ai @zcta @zcs9) (ai @zcqt @zcoq)))
theorem zc9f : type_of% (ai (ai (ai @zbsl @zbsh) (ai @zcot @zbsi)) (ai (ai @zb09 @zbsj) (ai @zbsk (ai @zcos @zcor)))):=(ai (ai (ai @zbsl @zbsh) (ai @zcot @zbsi)) (ai (ai @zb09 @zbsj) (ai @zbsk (ai @zcos @zcor))))
theorem zc9e : type_of% (ai (ai @zcrq @zcrs) (ai @zcn7 @zcrr)):=(ai (ai @zcrq @zcrs) (ai @zcn7 @zcrr))
theorem zc9d : type_of% (ai (ai @zcqp (ai @zcm9 @zcnd)) (ai @zcna (ai @zcnc @zbum))):=(ai (ai @zcqp (ai @zcm9 @zcnd)) (ai @zcna (ai @zcnc @zbum)))
theorem zc9c : type_of% (ai @zcnb (ai @zcm7 @zcm8)):=(ai @zcnb (ai @zcm7 @zcm8))
theorem zc9b : type_of% (ai (ai @zcqo (ai @zcm6 @zcqq)) (ai @zcnf (ai @zcni @zcng))):=(ai (ai @zcqo (ai @zcm6 @zcqq)) (ai @zcnf (ai @zcni @zcng)))
theorem zc9a : type_of% (ai (ai @zbul (ai @zcnh @zcqr)) (ai (ai @zcqs @zcne) (ai @zcnj @zcou))):=(ai (ai @zbul (ai @zcnh @zcqr)) (ai (ai @zcqs @zcne) (ai @zcnj @zcou)))
theorem zc89 : type_of% (ai @zcow (ai @zbse @zcov)):=(ai @zcow (ai @zbse @zcov))
theorem zc88 : type_of% (ai (ai (ai @zco3 @zbsa) (ai @zbr6 (ai @zco6 @zbr7))) (ai (ai @zb03 @zbr9) (ai @zbr8 (ai @zco5 @zco4)))):=(ai (ai (ai @zco3 @zbsa) (ai @zbr6 (ai @zco6 @zbr7))) (ai (ai @zb03 @zbr9) (ai @zbr8 (ai @zco5 @zco4))))
theorem zc87 : type_of% (ai (ai @zbr1 (ai @zb01 @zb0x)) (ai (ai @zb0y @zca1) (ai @zb0z @zb00))):=(ai (ai @zbr1 (ai @zb01 @zb0x)) (ai (ai @zb0y @zca1) (ai @zb0z @zb00)))
theorem zc86 : type_of% (ai (ai @zbr0 @zbs9) (ai @zcs1 (ai @zcrf @zcrg))):=(ai (ai @zbr0 @zbs9) (ai @zcs1 (ai @zcrf @zcrg)))
theorem zc85 : type_of% (ai @zcoz (ai @zco1 @zco2)):=(ai @zcoz (ai @zco1 @zco2))
theorem zc84 : type_of% (@zco0):=(@zco0)
theorem zc83 : type_of% (ai (ai (ai @zctm (ai @zbs5 @zcr0)) (ai @zb1k (ai @zcr5 @zb1e))) (ai (ai @zctd (ai @zcr1 @zb1j)) (ai (ai @zcr4 @zb1f) (ai @zcp9 @zcbf)))):=(ai (ai (ai @zctm (ai @zbs5 @zcr0)) (ai @zb1k (ai @zcr5 @zb1e))) (ai (ai @zctd (ai @zcr1 @zb1j)) (ai (ai @zcr4 @zb1f) (ai @zcp9 @zcbf))))
theorem zc82 : type_of% (ai (ai (ai @zb1i @zb1h) (ai @zcr3 @zcr2)) (ai (ai @zb1g @zcto) (ai @zctn (ai @zbs4 @zctp)))):=(ai (ai (ai @zb1i @zb1h) (ai @zcr3 @zcr2)) (ai (ai @zb1g @zcto) (ai @zctn (ai @zbs4 @zctp))))
theorem zc81 : type_of% (ai (ai (ai @zcrz (ai @zb1l @zcr6)) (ai (ai @zctl @zc6c) (ai @zbs6 @zcoh))) (ai (ai @zcpv (ai @zbqb @zcs7)) (ai (ai @zcrk @zcsp) (ai @zcq2 @ak)))):=(ai (ai (ai @zcrz (ai @zb1l @zcr6)) (ai (ai @zctl @zc6c) (ai @zbs6 @zcoh))) (ai (ai @zcpv (ai @zbqb @zcs7)) (ai (ai @zcrk @zcsp) (ai @zcq2 @ak))))
theorem zc80 : type_of% (ai (ai (ai @aa @aq) (ai @ag (ai @zcb8 @zcnv))) (ai (ai @oc @zcrc) (ai @zcrd (ai @zcoj @fx)))):=(ai (ai (ai @aa @aq) (ai @ag (ai @zcb8 @zcnv))) (ai (ai @oc @zcrc) (ai @zcrd (ai @zcoj @fx))))
theorem zc8z : type_of% (ai (ai (ai @zb0h (ai @zbz3 @zbz9)) (ai @zb0g (ai @zcah @zbz2))) (ai (ai @zb0a (ai @zb0b @zb0c)) (ai (ai @zb0d @zb0e) (ai @zbz8 @zbz7)))):=(ai (ai (ai @zb0h (ai @zbz3 @zbz9)) (ai @zb0g (ai @zcah @zbz2))) (ai (ai @zb0a (ai @zb0b @zb0c)) (ai (ai @zb0d @zb0e) (ai @zbz8 @zbz7))))
theorem zc8y : type_of% (ai (ai (ai @zbz6 (ai @zbz5 @zbz4)) (ai (ai @zb0f @zbqs) (ai @zbqr @zbzu))) (ai (ai (ai @zbzt @zbzv) (ai @zc5u @zbs2)) (ai (ai @zbtf @zbs1) (ai @zbs3 @zbte)))):=(ai (ai (ai @zbz6 (ai @zbz5 @zbz4)) (ai (ai @zb0f @zbqs) (ai @zbqr @zbzu))) (ai (ai (ai @zbzt @zbzv) (ai @zc5u @zbs2)) (ai (ai @zbtf @zbs1) (ai @zbs3 @zbte))))
theorem zc8x : type_of% (ai (ai (ai @zbuc (ai @zc41 @zc6i)) (ai (ai @zc6n @zbve) (ai @zcp8 @zcp7))) (ai (ai (ai @zcpg @zcrn) (ai @zcrm @zcs5)) (ai (ai @zcrj @zcrh) (ai @zbr2 @zco7)))):=(ai (ai (ai @zbuc (ai @zc41 @zc6i)) (ai (ai @zc6n @zbve) (ai @zcp8 @zcp7))) (ai (ai (ai @zcpg @zcrn) (ai @zcrm @zcs5)) (ai (ai @zcrj @zcrh) (ai @zbr2 @zco7))))
theorem zc8w : type_of% (ai (ai (ai @zcrl (ai @zcol @zcok)) (ai (ai @List.map_cons.{0,0} @List.map_nil.{0,0}) (ai @List.getElem?_cons_zero.{0} @List.getElem?_cons_succ.{0}))) (ai (ai @List.length_cons.{0} (ai @List.length_nil.{0} @List.drop_succ_cons.{0})) (ai (ai @List.drop_zero.{0} @List.take_succ_cons.{0}) (ai @List.take_zero.{0} @List.take_nil.{0})))):=(ai (ai (ai @zcrl (ai @zcol @zcok)) (ai (ai @List.map_cons.{0,0} @List.map_nil.{0,0}) (ai @List.getElem?_cons_zero.{0} @List.getElem?_cons_succ.{0}))) (ai (ai @List.length_cons.{0} (ai @List.length_nil.{0} @List.drop_succ_cons.{0})) (ai (ai @List.drop_zero.{0} @List.take_succ_cons.{0}) (ai @List.take_zero.{0} @List.take_nil.{0}))))
theorem zc8v : type_of% (ai (ai (ai (ai @List.take_length.{0} @List.set_cons_zero.{0}) (ai @List.set_cons_succ.{0} @Option.map_some.{0,0})) (ai (ai @Option.map_none.{0,0} @Option.bind_some.{0,0}) (ai @and_true @true_and))) (ai (ai (ai @Bool.not_true @Bool.not_false) (ai @List.all_cons.{0} @List.all_nil.{0})) (ai (ai @Bool.and_true @Bool.true_and) (ai @Bool.and_self @not_false_eq_true)))):=(ai (ai (ai (ai @List.take_length.{0} @List.set_cons_zero.{0}) (ai @List.set_cons_succ.{0} @Option.map_some.{0,0})) (ai (ai @Option.map_none.{0,0} @Option.bind_some.{0,0}) (ai @and_true @true_and))) (ai (ai (ai @Bool.not_true @Bool.not_false) (ai @List.all_cons.{0} @List.all_nil.{0})) (ai (ai @Bool.and_true @Bool.true_and) (ai @Bool.and_self @not_false_eq_true))))
theorem zc8u : type_of% (ai (ai (ai (ai @Nat.zero_add @Nat.le_refl) (ai @Nat.add_zero @Nat.zero_mul)) (ai (ai @Nat.mul_one @Nat.one_mul) (ai @Int.toNat_zero @Int.toNat_natCast))) (ai (ai (ai @List.nil_append.{0} @List.cons_append.{0}) (ai @List.append_nil.{0} @cond_true.{1})) (ai (ai @cond_false.{1} @if_true.{1}) (ai @if_false.{1} @List.length_map.{0,0})))):=(ai (ai (ai (ai @Nat.zero_add @Nat.le_refl) (ai @Nat.add_zero @Nat.zero_mul)) (ai (ai @Nat.mul_one @Nat.one_mul) (ai @Int.toNat_zero @Int.toNat_natCast))) (ai (ai (ai @List.nil_append.{0} @List.cons_append.{0}) (ai @List.append_nil.{0} @cond_true.{1})) (ai (ai @cond_false.{1} @if_true.{1}) (ai @if_false.{1} @List.length_map.{0,0}))))
theorem zc8t : type_of% (ai (ai (ai @List.length_append.{0} @not_true_eq_false) (ai @decide_eq_true_eq (ai @or_true @true_or))) (ai (ai @or_false @ne_eq.{1}) (ai @eq_self.{1} (ai @bne_self_eq_false.{0} @beq_self_eq_true.{0})))):=(ai (ai (ai @List.length_append.{0} @not_true_eq_false) (ai @decide_eq_true_eq (ai @or_true @true_or))) (ai (ai @or_false @ne_eq.{1}) (ai @eq_self.{1} (ai @bne_self_eq_false.{0} @beq_self_eq_true.{0}))))
theorem TT : type_of% (ai (ai (ai (ai (ai @TT0 @TT1) (ai @TT2 (ai @TT3 @TT4))) (ai (ai @TT5 @TT6) (ai @TT7 (ai @TT8 @TT9)))) (ai (ai (ai @zc9n @zc9m) (ai @zc9l (ai @zc9k @zc9j))) (ai (ai @zc9i @zc9h) (ai @zc9g (ai @zc9f @zc9e))))) (ai (ai (ai (ai @zc9d @zc9c) (ai @zc9b (ai @zc9a @zc89))) (ai (ai @zc88 @zc87) (ai @zc86 (ai @zc85 @zc84)))) (ai (ai (ai @zc83 @zc82) (ai @zc81 (ai @zc80 @zc8z))) (ai (ai @zc8y (ai @zc8x @zc8w)) (ai @zc8v (ai @zc8u @zc8t)))))):=(ai (ai (ai (ai (ai @TT0 @TT1) (ai @TT2 (ai @TT3 @TT4))) (ai (ai @TT5 @TT6) (ai @TT7 (ai @TT8 @TT9)))) (ai (ai (ai @zc9n @zc9m) (ai @zc9l (ai @zc9k @zc9j))) (ai (ai @zc9i @zc9h) (ai @zc9g (ai @zc9f @zc9e))))) (ai (ai (ai (ai @zc9d @zc9c) (ai @zc9b (ai @zc9a @zc89))) (ai (ai @zc88 @zc87) (ai @zc86 (ai @zc85 @zc84)))) (ai (ai (ai @zc83 @zc82) (ai @zc81 (ai @zc80 @zc8z))) (ai (ai @zc8y (ai @zc8x @zc8w)) (ai @zc8v (ai @zc8u @zc8t))))))
end Go.Proofs.Ytjgpklmkdkkooaa.Sh
