import Derived.Test.YtdcfoaafkppojaaTv8
set_option linter.unusedVariables false
set_option linter.unusedSimpArgs false
/- The tree level: evaluation, step by step: printed by a program of ours. -/
namespace Go.Proofs.Ytdcfoaafkppojaa.Sh
open Go Go.RowKit
def pK (o : Option TV) (d : Option Nat) (K : au) (fr : TF) (tk : TK) (τ : TH) : Prop := match o with | some v => K (fv fr d v) tk τ | none => False
def zb08 (lv : List Nat) (tk : TK) (τ : TH) (fr' : TF) (tk' : TK) (τ' : TH) (K : au) : Prop := if ltL τ.next tk.length (lv.map fun t => lkp fr' t) = true then K (sel lv fr') (tk'.take tk.length) (τ'.cut τ.next) else K (sel lv fr') tk' τ'
def fzK (o : Option TV) (τ : TH) (K : TV → TH → Prop) (τ' : TH) : Prop := match o with | some u => K u (τ'.cut τ.next) | none => False
def rtK (o : Option TV) (τ : TH) (K : TV → TH → Prop) (τ' : TH) : Prop := match o with | some v => (if v.canT.under τ.next then K v.canT (τ'.cut τ.next) else v.canT.under τ'.next = true ∧ K v.canT τ') | none => False
def pl (l : List ak) : List (ak × List Nat) := l.map fun x => (x,[])
def tLD (Γ : FuncId → Option TG) : List ak → au → au
 | [],K => K
 | ⟨⟨d,i,none⟩,m⟩ :: r,K => fun fr tk τ => tG Γ true i m d (tLD Γ r K) fr tk τ
 | ⟨⟨d,i,some (t,b)⟩,m⟩ :: r,K => fun fr tk τ => gdK Γ true (lkp fr t) b i m d (tLD Γ r K) fr tk τ
section
variable (Γ : FuncId → Option TG) (dr : Bool) (d : Option Nat) (K : au) (fr fr' : TF) (tk tk' : TK) (τ τ' : TH) (Q : TEx → au) (a b : TC) (lv : List Nat) (r : List ak) (m : Nat)
theorem zb21 : ∀ (l : List ak) (n : Nat) (told : List (Nat × Ins)) (K : au),tD Γ n (pl l) K told = tLD Γ l K
 | [],n,told,K => rfl
 | ⟨⟨d,i,g⟩,m⟩ :: r,n,told,K => by
  funext fr tk τ
  cases g with
  | none =>
   show tG Γ true i m d (pnK _ n fr τ told [] (tD Γ (n + 1) (pl r) K)) fr tk τ = tG Γ true i m d (tLD Γ r K) fr tk τ
   have q : pnK ⟨⟨d,i,none⟩,m⟩ n fr τ told [] (tD Γ (n + 1) (pl r) K) = tLD Γ r K := by
    funext fr' tk' τ'
    unfold pnK
    simp [zb21 r]
   rw [q]
  | some tb =>
   obtain ⟨t,b⟩ := tb
   show gdK Γ true (lkp fr t) b i m d (pnK _ n fr τ told [] (tD Γ (n + 1) (pl r) K)) fr tk τ = gdK Γ true (lkp fr t) b i m d (tLD Γ r K) fr tk τ
   have q : pnK ⟨⟨d,i,some (t,b)⟩,m⟩ n fr τ told [] (tD Γ (n + 1) (pl r) K) = tLD Γ r K := by
    funext fr' tk' τ'
    unfold pnK
    simp [zb21 r]
   rw [q]
theorem sc (i : I) : z7 i 0 fr τ = (fr,τ) := rfl
theorem sb (i : I) : z7 i 1 fr τ = (fr,τ) := rfl
theorem sa (i : I) : z7 i 2 fr τ = (fr,τ) := rfl
theorem r9 (i : I) : z7 i 7 fr τ = (fr,τ) := rfl
theorem zb1c : tW Γ .skip Q fr tk τ = Q .normal fr tk τ := zb2v
theorem zb1d (id : Nat) : tW Γ (.exit id) Q fr tk τ = Q (.exit id) fr tk τ := zb2x
theorem zb9k : tW Γ (.ret lv) Q fr tk τ = Q .ret (sel lv fr) tk τ := zb74
theorem zb9l : tW Γ (.ops r) Q fr tk τ = tL Γ r (Q .normal) fr tk τ := zb75
theorem zbvi : tW Γ (.draw (pl r)) Q fr tk τ = tLD Γ r (Q .normal) fr tk τ := by rw [mf,zb21]
theorem zb9j : tW Γ (.seq a b) Q fr tk τ = tW Γ a (zbpl (tW Γ b Q) Q) fr tk τ := zb73
theorem zb1e (c : Operand) : tW Γ (.cond c a b) Q fr tk τ = cT Γ (tO fr c) a b Q fr tk τ := zb2y
theorem zbvk (id : Nat) : tW Γ (.block id lv a) Q fr tk τ = tW Γ a (zbom id lv tk τ Q) fr tk τ := zbw3
theorem zbvj : tW Γ (.clean lv a) Q fr tk τ = tW Γ a Q (sel lv fr) tk τ := zbw2
theorem zbuu (c : Bool) : cT Γ (.bool c) a b Q fr tk τ = if c = true then tW Γ a Q fr tk τ else tW Γ b Q fr tk τ := rfl
theorem zbpj (n : au) : zbpl n Q .normal = n := rfl
theorem zbpi (n : au) : zbpl n Q .ret = Q .ret := rfl
theorem zbpk (n : au) (id : Nat) : zbpl n Q (.exit id) = Q (.exit id) := rfl
theorem zcjo (id : Nat) : zbom id lv tk τ Q .normal fr' tk' τ' = zb08 lv tk τ fr' tk' τ' (Q .normal) := by unfold zbom zb08 ua; simp only [true_or,if_true]; split <;> rfl
theorem zcjn (id : Nat) : zbom id lv tk τ Q (.exit id) fr' tk' τ' = zb08 lv tk τ fr' tk' τ' (Q .normal) := by unfold zbom zb08 ua; simp only [or_true,if_true]; split <;> rfl
theorem zcnh (id j : Nat) (h : (j = id) = False) : zbom id lv tk τ Q (.exit j) = Q (.exit j) := by funext fr tk τ; unfold zbom; simp [h]
theorem zcjp (id : Nat) : zbom id lv tk τ Q .ret = Q .ret := by funext fr tk τ; unfold zbom; simp
theorem zcci (Q : TEx → au) : zbs7 Γ lv a tk τ Q .normal fr' tk' τ' = zb08 lv tk τ fr' tk' τ' (tW Γ (.loop lv a) Q) := by simp only [zbs7,zb08,ua]; split <;> rfl
theorem zbs5 (Q : TEx → au) : zbs7 Γ lv a tk τ Q .ret = Q .ret := rfl
theorem zbs6 (Q : TEx → au) (id : Nat) : zbs7 Γ lv a tk τ Q (.exit id) = Q (.exit id) := rfl
theorem zbuz : zb08 lv tk τ fr' tk' τ' K = if ltL τ.next tk.length (lv.map fun t => lkp fr' t) = true then K (sel lv fr') (tk'.take tk.length) (τ'.cut τ.next) else K (sel lv fr') tk' τ' := rfl
theorem zbz1 (rs : List R) (K : TV → TH → Prop) : zbxe rs false τ K .ret fr tk τ' = rtK (zbmi rs fr τ') τ K τ' := by unfold zbxe rtK; cases zbmi rs fr τ' <;> simp
theorem zbz2 (rs : List R) (K : TV → TH → Prop) : zbxe rs false τ K .normal fr tk τ' = rtK (zbmi rs fr τ') τ K τ' := by unfold zbxe rtK; cases zbmi rs fr τ' <;> simp
theorem zbqy (rs : List R) (K : TV → TH → Prop) : zbxe rs true τ K .ret fr tk τ' = fzK ((zbmi rs fr τ').bind (tfz τ' τ.next)) τ K τ' := by unfold zbxe fzK; cases h : zbmi rs fr τ' with | none => simp | some v => simp only [Option.bind_some,or_true,true_and,if_true]; cases tfz τ' τ.next v <;> rfl
theorem zbqz (rs : List R) (K : TV → TH → Prop) : zbxe rs true τ K .normal fr tk τ' = fzK ((zbmi rs fr τ').bind (tfz τ' τ.next)) τ K τ' := by unfold zbxe fzK; cases h : zbmi rs fr τ' with | none => simp | some v => simp only [Option.bind_some,true_or,true_and,if_true]; cases tfz τ' τ.next v <;> rfl
theorem zcjz (v : TV) (K : TV → TH → Prop) : fzK (some v) τ K τ' = K v (τ'.cut τ.next) := rfl
theorem zcm2 (v : TV) (K : TV → TH → Prop) : rtK (some v) τ K τ' = if v.canT.under τ.next then K v.canT (τ'.cut τ.next) else v.canT.under τ'.next = true ∧ K v.canT τ' := rfl
theorem zby5 (r : R) : zbmi [r] fr τ = zbo2 fr τ r := rfl
theorem zby6 : zbmi [] fr τ = some (.tup []) := rfl
theorem zby4 (r1 r2 : R) (l : List R) : zbmi (r1 :: r2 :: l) fr τ = (z5 fr τ (r1 :: r2 :: l)).map .tup := rfl
def zb87 (a : Option TV) (b : Option (List TV)) : Option (List TV) := match a,b with | some x,some y => some (x :: y) | _,_ => none
theorem zcrt : z5 fr τ [] = some [] := rfl
theorem zcuv (r : R) (l : List R) : z5 fr τ (r :: l) = zb87 (zbo2 fr τ r) (z5 fr τ l) := rfl
theorem zc5n (x : TV) (y : List TV) : zb87 (some x) (some y) = some (x :: y) := rfl
def ld1 (τ : TH) : TV → Option TV | .ptr id off => zbww τ id off | .rptr cs off => cs[off]? | _ => none
def ldN (n : Nat) (τ : TH) : TV → Option TV | .ptr id off => if n = 0 then none else (zbl3 τ id off n).map .agg | .rptr cs off => if off + n ≤ cs.length then some (.agg ((cs.drop off).take n)) else none | _ => none
def rd1 (τ : TH) : TV → Option TV | .ptr id off => zbww τ id off | _ => none
def rdN (n : Nat) (τ : TH) : TV → Option TV | .ptr id off => if n = 0 then none else (zbl3 τ id off n).map .agg | _ => none
theorem zc8p (t : Nat) : zbo2 fr τ (.tmp t) = some (lkp fr t) := rfl
theorem zc6n (t : Nat) : zbo2 fr τ (.cell1 t) = rd1 τ (lkp fr t) := rfl
theorem zc6y (t n : Nat) : zbo2 fr τ (.cellN t n) = rdN n τ (lkp fr t) := rfl
theorem zbrm (id off : Nat) : rd1 τ (.ptr id off) = zbww τ id off := rfl
theorem zbrl (n id off : Nat) : rdN n τ (.ptr id off) = if n = 0 then none else (zbl3 τ id off n).map .agg := rfl
theorem zbzs : tL Γ [] K = K := rfl
theorem zbp4 (i : I) : tL Γ (⟨⟨d,i,none⟩,m⟩ :: r) K fr tk τ = tG Γ false i m d (tL Γ r K) fr tk τ := rfl
theorem zbp3 (i : I) (t : Nat) (b : Bool) : tL Γ (⟨⟨d,i,some (t,b)⟩,m⟩ :: r) K fr tk τ = gdK Γ false (lkp fr t) b i m d (tL Γ r K) fr tk τ := rfl
theorem zbp6 : tLD Γ [] K = K := rfl
theorem zcmk (i : I) : tLD Γ (⟨⟨d,i,none⟩,m⟩ :: r) K fr tk τ = tG Γ true i m d (tLD Γ r K) fr tk τ := rfl
theorem zcml (i : I) (t : Nat) (b : Bool) : tLD Γ (⟨⟨d,i,some (t,b)⟩,m⟩ :: r) K fr tk τ = gdK Γ true (lkp fr t) b i m d (tLD Γ r K) fr tk τ := rfl
theorem zb8y (i : I) : gdK Γ dr (.bool true) true i m d K fr tk τ = tG Γ dr i m d K fr tk τ := by simp [gdK]
theorem zb81 (i : I) : gdK Γ dr (.bool false) false i m d K fr tk τ = tG Γ dr i m d K fr tk τ := by simp [gdK]
theorem zb8z (i : I) : gdK Γ dr (.bool true) false i m d K fr tk τ = K (fv fr d (.tup [])) tk τ := by simp [gdK]
theorem zb80 (i : I) : gdK Γ dr (.bool false) true i m d K fr tk τ = K (fv fr d (.tup [])) tk τ := by simp [gdK]
theorem zb01 (i : I) (b : Bool) : gdK Γ dr (.tup []) b i m d K fr tk τ = K (fv fr d (.tup [])) tk τ := rfl
theorem zb1s (f : FuncId) (args : List Operand) : tG Γ dr (.call f args) 0 d K fr tk τ = eo Γ dr f (args.map fun a => (tO fr a).canT) d K fr tk τ := rfl
theorem zbv3 (f : FuncId) (args : List Operand) : tG Γ dr (.call f args) 1 d K fr tk τ = zcb8 Γ f (zbiy (tfz τ 0) (args.map (tO fr))) d K fr tk τ := rfl
theorem zcmr (f : TV → Option TV) : zbiy f [] = some [] := rfl
def zcii (a : Option TV) (b : Option (List TV)) : Option (List TV) := match a,b with | some x,some y => some (x :: y) | _,_ => none
theorem zc4i (f : TV → Option TV) (v : TV) (l : List TV) : zbiy f (v :: l) = zcii (f v) (zbiy f l) := rfl
theorem zc44 (v : TV) (l : List TV) : zcii (some v) (some l) = some (v :: l) := rfl
theorem zbpr (n0 : Nat) (cs : List TV) : tfz τ n0 (.agg cs) = (zbiy (zblg τ n0 2) cs).map .agg := rfl
theorem zcmw (n0 : Nat) (b : Bool) : tfz τ n0 (.bool b) = some (TV.bool b) := rfl
theorem zc4j (n0 : Nat) (b : Bool) : zblg τ n0 2 (.bool b) = some (TV.bool b) := rfl
theorem zbpq (n0 : Nat) (k : IntKind) (n : Int) : tfz τ n0 (.int k n) = some (TV.int k n) := rfl
theorem zcms (n0 : Nat) (k : IntKind) (n : Int) : zblg τ n0 2 (.int k n) = some (TV.int k n) := rfl
theorem zbpm (n0 : Nat) (s : ByteArray) : tfz τ n0 (.str s) = some (TV.str s) := rfl
theorem zcmv (n0 : Nat) (s : ByteArray) : zblg τ n0 2 (.str s) = some (TV.str s) := rfl
theorem zby9 (n0 : Nat) (l : List TV) : tfz τ n0 (.sl l) = some (TV.sl l) := rfl
theorem zbps (n0 : Nat) (l : List TV) : zblg τ n0 2 (.sl l) = some (TV.sl l) := rfl
theorem zbpp (n0 : Nat) (k : Nat) (l : List TV) : tfz τ n0 (.sla k l) = some (TV.sl l) := rfl
theorem zcmt (n0 : Nat) (k : Nat) (l : List TV) : zblg τ n0 2 (.sla k l) = some (TV.sl l) := rfl
theorem zbpn (n0 : Nat) : tfz τ n0 .slz = some (.sl []) := rfl
theorem zcmu (n0 : Nat) : zblg τ n0 2 .slz = some (.sl []) := rfl
theorem zbpo (n0 id off n sz : Nat) : tfz τ n0 (.slm id off n sz) = zblg τ n0 2 (.slm id off n sz) := rfl
theorem zbv2 (f : FuncId) (args : List Operand) : tG Γ dr (.callW f args) m d K fr tk τ = eo Γ false f (args.map fun a => (tO fr a).canT) d K fr tk τ := rfl
def cvK (Γ : FuncId → Option TG) (dr : Bool) (v : TV) (args : List TV) (d : Option Nat) (K : au) (fr : TF) (tk : TK) (τ : TH) : Prop := match v with | .func f a b => eo Γ dr f (a ++ args ++ b) d K fr tk τ | _ => False
theorem zbv1 (x : Operand) (args : List Operand) : tG Γ dr (.callv x args) m d K fr tk τ = cvK Γ dr (tO fr x) (args.map fun a => (tO fr a).canT) d K fr tk τ := by unfold cvK; rfl
theorem zcik (x : Operand) (args : List Operand) : tG Γ dr (.callvW x args) m d K fr tk τ = cvK Γ false (tO fr x) (args.map fun a => (tO fr a).canT) d K fr tk τ := by unfold cvK; rfl
theorem zbuj (f : FuncId) (p q args : List TV) : cvK Γ dr (.func f p q) args d K fr tk τ = eo Γ dr f (p ++ args ++ q) d K fr tk τ := rfl
theorem zbr3 (v : TV) : pK (some v) d K fr tk τ = K (fv fr d v) tk τ := rfl
theorem zb0i (c : Prop) [Decidable c] (v : TV) : pK (if c then some v else none) d K fr tk τ = (c ∧ K (fv fr d v) tk τ) := by unfold pK; by_cases h : c <;> simp [h]
theorem zck4 (v : TV) : opK (some (v,tk',τ')) d K fr = K (fv fr d v) tk' τ' := rfl
theorem zccl (c : Prop) [Decidable c] (x : TV × TK × TH) : opK (if c then some x else none) d K fr = (c ∧ opK (some x) d K fr) := by unfold opK; by_cases h : c <;> simp [h]
theorem zb9p (x : Operand) : tG Γ dr (.mov x) 0 d K fr tk τ = K (fv fr d (tO fr x)) tk τ := rfl
theorem zb1m (x : Operand) : tG Γ dr (.mov x) 3 d K fr tk τ = K (fv fr d (tO fr x).canT) tk τ := rfl
def zbsp (v : TV) (d : Option Nat) (K : au) (fr : TF) (tk : TK) (τ : TH) : Prop := match v with | .slz => K (fv fr d (.sla tk.length [])) (tk ++ [some (0,0)]) τ | _ => False
theorem zb1n (x : Operand) : tG Γ dr (.mov x) 1 d K fr tk τ = zbsp (tO fr x) d K fr tk τ := by unfold zbsp; simp only [tG,tOp,if_true]; cases tO fr x <;> rfl
theorem zclh : zbsp .slz d K fr tk τ = K (fv fr d (.sla tk.length [])) (tk ++ [some (0,0)]) τ := rfl
def zb3f (c a b : TV) : Option TV := match c with | .bool t => some (bif t then a else b) | _ => none
theorem kw (o : Option TV) : opK (o.map fun v => (v,tk,τ)) d K fr = pK o d K fr tk τ := by cases o <;> rfl
theorem zb1l (c a b : Operand) : tG Γ dr (.pick c a b) m d K fr tk τ = pK (zb3f (tO fr c) (tO fr a) (tO fr b)) d K fr tk τ := (kw d K fr tk τ (tP (.pick c a b) fr τ)).trans (by unfold zb3f; rfl)
theorem zbr0 (t : Bool) (v w : TV) : zb3f (.bool t) v w = some (bif t then v else w) := rfl
theorem zbvy (x : Operand) : tG Γ dr (.load1 x) 0 d K fr tk τ = pK (ld1 τ (tO fr x)) d K fr tk τ := (kw d K fr tk τ (tP (.load1 x) fr τ)).trans (by unfold ld1; rfl)
theorem zbtl (id off : Nat) : ld1 τ (.ptr id off) = zbww τ id off := rfl
theorem zcj9 (cs : List TV) (off : Nat) : ld1 τ (.rptr cs off) = cs[off]? := rfl
theorem zbvw (n : Nat) (x : Operand) : tG Γ dr (.loadN n x) m d K fr tk τ = pK (ldN n τ (tO fr x)) d K fr tk τ := (kw d K fr tk τ (tP (.loadN n x) fr τ)).trans (by unfold ldN; rfl)
theorem zbtk (n id off : Nat) : ldN n τ (.ptr id off) = if n = 0 then none else (zbl3 τ id off n).map .agg := rfl
theorem zcka (n : Nat) (cs : List TV) (off : Nat) : ldN n τ (.rptr cs off) = if off + n ≤ cs.length then some (.agg ((cs.drop off).take n)) else none := rfl
def zb8l : TV → Option TV | .ptr id off => some (.ptr id off) | .rptr cs off => some (.rptr cs off) | .func f a b => some (.func f a b) | _ => none
theorem zcio (x : Operand) : tG Γ dr (.nilchk x) m d K fr tk τ = pK (zb8l (tO fr x)) d K fr tk τ := (kw d K fr tk τ (tP (.nilchk x) fr τ)).trans (by unfold zb8l; rfl)
theorem zclg (id off : Nat) : zb8l (.ptr id off) = some (.ptr id off) := rfl
theorem zco5 (cs : List TV) (off : Nat) : zb8l (.rptr cs off) = some (.rptr cs off) := rfl
theorem zco4 (f : FuncId) (p q : List TV) : zb8l (.func f p q) = some (.func f p q) := rfl
theorem zb9v (op : BinOp) (x y : Operand) : tG Γ dr (.bin op x y) m d K fr tk τ = pK (zash op (tO fr x) (tO fr y)) d K fr tk τ := (kw d K fr tk τ (tP (.bin op x y) fr τ)).trans (by rfl)
def eqb (neg : Bool) (p q : TV) : Option TV := match p,q with | .bool p,.bool q => some (.bool (bif neg then p != q else p == q)) | _,_ => none
theorem zb9t (neg : Bool) (x y : Operand) : tG Γ dr (.eqB neg x y) m d K fr tk τ = pK (eqb neg (tO fr x) (tO fr y)) d K fr tk τ := (kw d K fr tk τ (tP (.eqB neg x y) fr τ)).trans (by unfold eqb; rfl)
theorem zb05 (neg p q : Bool) : eqb neg (.bool p) (.bool q) = some (.bool (bif neg then p != q else p == q)) := rfl
theorem zbvz (k : NK) (neg : Bool) (x : Operand) : tG Γ dr (.isNil k neg x) m d K fr tk τ = pK ((zbm4 k (tO fr x)).map fun b => .bool (bif neg then !b else b)) d K fr tk τ := (kw d K fr tk τ (tP (.isNil k neg x) fr τ)).trans (by rfl)
theorem zc8c : zbm4 .p (.nilP) = some true := rfl
theorem zc6k (i o : Nat) : zbm4 .p (.ptr i o) = some false := rfl
theorem zc8d (c : List TV) (o : Nat) : zbm4 .p (.rptr c o) = some false := rfl
theorem zc6m : zbm4 .s (.slz) = some true := rfl
theorem zc4k (v : TV) (l : List TV) : zbm4 .s (.sl (v :: l)) = some false := rfl
theorem zc6l (i o n s : Nat) : zbm4 .s (.slm i o n s) = some false := rfl
theorem zc8b : zbm4 .m (.nilM) = some true := rfl
theorem zc8a : zbm4 .f (.nilF) = some true := rfl
theorem zc79 (f : FuncId) (p q : List TV) : zbm4 .f (.func f p q) = some false := rfl
theorem zc9t (op : UnOp) (x : Operand) : tG Γ dr (.un op x) m d K fr tk τ = pK (tun op (tO fr x)) d K fr tk τ := (kw d K fr tk τ (tP (.un op x) fr τ)).trans (by rfl)
def cnv (k : IntKind) : TV → Option TV | .int _ n => some (.int k (k.wrap n)) | _ => none
theorem zb1r (k : IntKind) (x : Operand) : tG Γ dr (.conv k x) m d K fr tk τ = pK (cnv k (tO fr x)) d K fr tk τ := (kw d K fr tk τ (tP (.conv k x) fr τ)).trans (by unfold cnv; rfl)
theorem zbum (k j : IntKind) (n : Int) : cnv k (.int j n) = some (.int k (k.wrap n)) := rfl
def zch9 : TV → Option TV | .str s => some (.str s) | _ => none
theorem zbv0 (x : Operand) : tG Γ dr (.convS x) m d K fr tk τ = pK (zch9 (tO fr x)) d K fr tk τ := (kw d K fr tk τ (tP (.convS x) fr τ)).trans (by unfold zch9; rfl)
theorem zckk (s : ByteArray) : zch9 (.str s) = some (.str s) := rfl
def fad (off : Nat) : TV → Option TV | .ptr id o => some (.ptr id (o + off)) | .rptr cs o => some (.rptr cs (o + off)) | _ => none
theorem zc68 (off : Nat) (x : Operand) : tG Γ dr (.fieldAddr off x) 0 d K fr tk τ = pK (fad off (tO fr x)) d K fr tk τ := (kw d K fr tk τ (tP (.fieldAddr off x) fr τ)).trans (by unfold fad; rfl)
def lfO (b : Option Ob) (id o off : Nat) (d : Option Nat) (K : au) (fr : TF) (tk : TK) (τ : TH) : Prop := match b with
 | some b => (τ.lock ≤ id ∧ b.cs ≠ []) ∧ K (fv (zbl6 id τ.next fr) d (.ptr τ.next (o + off))) tk ((τ.put id ⟨b.t,[]⟩).push b)
 | none => False
def lfK (off : Nat) (v : TV) (d : Option Nat) (K : au) (fr : TF) (tk : TK) (τ : TH) : Prop := match v with | .ptr id o => lfO (τ.at id) id o off d K fr tk τ | _ => False
theorem zbp2 (id n : Nat) (fr : TF) (x : Operand) : tO (zbl6 id n fr) x = ren id n (tO fr x) ∨ ∃ v,x = .const v := by
 cases x with
 | tmp t =>
  left
  induction fr with
  | nil => rfl
  | cons p r ih =>
   obtain ⟨k,v⟩ := p
   show lkp ((k,ren id n v) :: zbl6 id n r) t = ren id n (lkp ((k,v) :: r) t)
   simp only [lkp]
   by_cases h : t = k
   · rw [if_pos h,if_pos h]
   · rw [if_neg h,if_neg h]; exact ih
 | const v => exact .inr ⟨v,rfl⟩
 | func f => left; rfl
 | global g => left; rfl
theorem zb1o (off : Nat) (t : Nat) (h : lfK off (lkp fr t) d K fr tk τ) : tG Γ dr (.fieldAddr off (.tmp t)) 9 d K fr tk τ := by
 unfold lfK at h
 split at h
 · rename_i id o hz
   have hz' : tO fr (.tmp t) = .ptr id o := hz
   unfold lfO at h
   split at h
   · rename_i b hb
     obtain ⟨hc,h⟩ := h
     have e : z7 (.fieldAddr off (.tmp t)) 9 fr τ = (zbl6 id τ.next fr,(τ.put id ⟨b.t,[]⟩).push b) := by
      unfold z7 zb1y
      rw [if_pos rfl]
      simp only [hz',hb]
      rw [if_pos hc]
     simp only [tG,e]
     have e2 : tO (zbl6 id τ.next fr) (.tmp t) = .ptr τ.next o := by
      rcases zbp2 id τ.next fr (.tmp t) with e2 | ⟨v,e2⟩
      · rw [e2,hz']; simp [ren]
      · cases e2
     simp only [tOp,tP,e2]
     exact h
   · exact h.elim
 · exact h.elim
theorem zbte (off id o : Nat) : lfK off (.ptr id o) d K fr tk τ = lfO (τ.at id) id o off d K fr tk τ := rfl
theorem zcke (id o off : Nat) (t : TypeId) (cs : List TV) : lfO (some ⟨t,cs⟩) id o off d K fr tk τ = ((τ.lock ≤ id ∧ cs ≠ []) ∧ K (fv (zbl6 id τ.next fr) d (.ptr τ.next (o + off))) tk ((τ.put id ⟨t,[]⟩).push ⟨t,cs⟩)) := rfl
theorem zcl2 (i n : Nat) : zbl6 i n [] = [] := rfl
theorem zcpv (i n k : Nat) (v : TV) (l : TF) : zbl6 i n ((k,v) :: l) = (k,ren i n v) :: zbl6 i n l := rfl
theorem zbq7 (i n j o : Nat) : ren i n (.ptr j o) = if j = i then .ptr n o else .ptr j o := rfl
theorem zcpw (i n : Nat) : ren i n (TV.undef ) = TV.undef := rfl
theorem zcl3 (i n : Nat) (b : Bool) : ren i n (TV.bool b) = TV.bool b := rfl
theorem zbq8 (i n : Nat) (k : IntKind) (x : Int) : ren i n (TV.int k x) = TV.int k x := rfl
theorem zbq1 (i n : Nat) (s : ByteArray) : ren i n (TV.str s) = TV.str s := rfl
theorem zcmz (i n : Nat) : ren i n (TV.nilP ) = TV.nilP := rfl
theorem zcm0 (i n : Nat) (c : List TV) (o : Nat) : ren i n (TV.rptr c o) = TV.rptr c o := rfl
theorem zbq2 (i n : Nat) : ren i n (TV.slz ) = TV.slz := rfl
theorem zbz3 (i n : Nat) (l : List TV) : ren i n (TV.sl l) = TV.sl l := rfl
theorem zbq6 (i n : Nat) (k : Nat) (l : List TV) : ren i n (TV.sla k l) = TV.sla k l := rfl
theorem zbq5 (i n : Nat) (k : Nat) (t : TypeId) : ren i n (TV.slb k t) = TV.slb k t := rfl
theorem zbq3 (i n : Nat) (t : TypeId) (l : List TV) : ren i n (TV.slo t l) = TV.slo t l := rfl
theorem zbq4 (i n : Nat) (j o n0 s : Nat) : ren i n (TV.slm j o n0 s) = TV.slm j o n0 s := rfl
theorem zcl7 (i n : Nat) : ren i n (TV.nilM ) = TV.nilM := rfl
theorem zcl5 (i n : Nat) : ren i n (TV.nilF ) = TV.nilF := rfl
theorem zcl4 (i n : Nat) (f : FuncId) (p q : List TV) : ren i n (TV.func f p q) = TV.func f p q := rfl
theorem zcl6 (i n : Nat) : ren i n (TV.nilI ) = TV.nilI := rfl
theorem zbq9 (i n : Nat) (cs : List TV) : ren i n (TV.agg cs) = TV.agg cs := rfl
theorem zbq0 (i n : Nat) (cs : List TV) : ren i n (TV.tup cs) = TV.tup cs := rfl
theorem zbuf (off id o : Nat) : fad off (.ptr id o) = some (.ptr id (o + off)) := rfl
theorem zcjx (off : Nat) (cs : List TV) (o : Nat) : fad off (.rptr cs o) = some (.rptr cs (o + off)) := rfl
def fl1 (off : Nat) : TV → Option TV | .agg cs => cs[off]? | _ => none
theorem zcil (off : Nat) (x : Operand) : tG Γ dr (.field1 off x) m d K fr tk τ = pK (fl1 off (tO fr x)) d K fr tk τ := (kw d K fr tk τ (tP (.field1 off x) fr τ)).trans (by unfold fl1; rfl)
theorem zbue (off : Nat) (cs : List TV) : fl1 off (.agg cs) = cs[off]? := rfl
def flN (off n : Nat) : TV → Option TV | .agg cs => if off + n ≤ cs.length then some (.agg ((cs.drop off).take n)) else none | _ => none
theorem zcim (off n : Nat) (x : Operand) : tG Γ dr (.fieldN off n x) m d K fr tk τ = pK (flN off n (tO fr x)) d K fr tk τ := (kw d K fr tk τ (tP (.fieldN off n x) fr τ)).trans (by unfold flN; rfl)
theorem zbud (off n : Nat) (cs : List TV) : flN off n (.agg cs) = if off + n ≤ cs.length then some (.agg ((cs.drop off).take n)) else none := rfl
def ixP (len sz : Nat) (x i : TV) : Option TV := match x,i with
 | .ptr id o,.int _ n => if 0 ≤ n ∧ n < len then some (.ptr id (o + n.toNat * sz)) else none
 | .rptr cs o,.int _ n => if 0 ≤ n ∧ n < len then some (.rptr cs (o + n.toNat * sz)) else none
 | _,_ => none
theorem zc5u (len sz : Nat) (x i : Operand) : tG Γ dr (.indexPtr len sz x i) m d K fr tk τ = pK (ixP len sz (tO fr x) (tO fr i)) d K fr tk τ := (kw d K fr tk τ (tP (.indexPtr len sz x i) fr τ)).trans (by unfold ixP; rfl)
theorem zbtv (len sz id o : Nat) (k : IntKind) (n : Int) : ixP len sz (.ptr id o) (.int k n) = if 0 ≤ n ∧ n < len then some (.ptr id (o + n.toNat * sz)) else none := rfl
theorem zcj6 (len sz : Nat) (cs : List TV) (o : Nat) (k : IntKind) (n : Int) : ixP len sz (.rptr cs o) (.int k n) = if 0 ≤ n ∧ n < len then some (.rptr cs (o + n.toNat * sz)) else none := rfl
def ixS (sz : Nat) (x i : TV) : Option TV := match i with
 | .int _ n => (match x with
  | .slm id o len s => if 0 ≤ n ∧ n < len ∧ s = sz then some (.ptr id (o + n.toNat * sz)) else none
  | v => v.list.bind fun l => if 0 ≤ n ∧ n < l.length ∧ (l.getD n.toNat .undef).cells.length = sz then some (.rptr (l.getD n.toNat .undef).cells 0) else none)
 | _ => none
theorem zcnr (sz : Nat) (x i : Operand) : tG Γ dr (.indexSl sz x i) m d K fr tk τ = pK (ixS sz (tO fr x) (tO fr i)) d K fr tk τ := (kw d K fr tk τ (tP (.indexSl sz x i) fr τ)).trans (by unfold ixS; rfl)
theorem zb0z (sz : Nat) (l : List TV) (j : IntKind) (n : Int) : ixS sz (.sl l) (.int j n) = if 0 ≤ n ∧ n < l.length ∧ (l.getD n.toNat .undef).cells.length = sz then some (.rptr (l.getD n.toNat .undef).cells 0) else none := rfl
theorem zbtu (sz : Nat) (k : Nat) (l : List TV) (j : IntKind) (n : Int) : ixS sz (.sla k l) (.int j n) = if 0 ≤ n ∧ n < l.length ∧ (l.getD n.toNat .undef).cells.length = sz then some (.rptr (l.getD n.toNat .undef).cells 0) else none := rfl
theorem zbtt (sz id o len s : Nat) (j : IntKind) (n : Int) : ixS sz (.slm id o len s) (.int j n) = if 0 ≤ n ∧ n < len ∧ s = sz then some (.ptr id (o + n.toNat * sz)) else none := rfl
def ixT (x i : TV) : Option TV := match x,i with | .str s,.int _ n => if 0 ≤ n ∧ n < s.size then some (.int .u8 (s.data.getD n.toNat 0).toNat) else none | _,_ => none
theorem zc5v (x i : Operand) : tG Γ dr (.indexStr x i) m d K fr tk τ = pK (ixT (tO fr x) (tO fr i)) d K fr tk τ := (kw d K fr tk τ (tP (.indexStr x i) fr τ)).trans (by unfold ixT; rfl)
theorem zb8w (s : ByteArray) (k : IntKind) (n : Int) : ixT (.str s) (.int k n) = if 0 ≤ n ∧ n < s.size then some (.int .u8 (s.data.getD n.toNat 0).toNat) else none := rfl
def slT (x : TV) (lo hi : Option TV) : Option TV := match x with | .str s => (mp s.size lo hi).map fun lh => .str (s.extract lh.1 lh.2) | _ => none
theorem zc5w (x : Operand) (lo hi : Option Operand) : tG Γ dr (.sliceStr x lo hi) m d K fr tk τ = pK (slT (tO fr x) (lo.map (tO fr)) (hi.map (tO fr))) d K fr tk τ := (kw d K fr tk τ (tP (.sliceStr x lo hi) fr τ)).trans (by unfold slT; rfl)
theorem zb77 (s : ByteArray) (lo hi : Option TV) : slT (.str s) lo hi = (mp s.size lo hi).map fun lh => .str (s.extract lh.1 lh.2) := rfl
def slS (sz : Nat) (x : TV) (lo hi : Option TV) : Option TV := match x with
 | .slm id o len s => if s = sz then (mp len lo hi).map fun lh => .slm id (o + lh.1 * sz) (lh.2 - lh.1) sz else none
 | .sl l => if l.all (fun e => e.cells.length == sz) && !l.isEmpty then (mp l.length lo hi).map fun lh => .sl ((l.take lh.2).drop lh.1) else none
 | .sla _ l => if l.all (fun e => e.cells.length == sz) && !l.isEmpty then (mp l.length lo hi).map fun lh => .sl ((l.take lh.2).drop lh.1) else none
 | _ => none
theorem zcnv (sz : Nat) (x : Operand) (lo hi : Option Operand) : tG Γ dr (.sliceSl sz x lo hi) m d K fr tk τ = pK (slS sz (tO fr x) (lo.map (tO fr)) (hi.map (tO fr))) d K fr tk τ := (kw d K fr tk τ (tP (.sliceSl sz x lo hi) fr τ)).trans (by unfold slS; rfl)
theorem zbzx (sz : Nat) (l : List TV) (lo hi : Option TV) : slS sz (.sl l) lo hi = if l.all (fun e => e.cells.length == sz) && !l.isEmpty then (mp l.length lo hi).map fun lh => .sl ((l.take lh.2).drop lh.1) else none := rfl
theorem zbqg (sz k : Nat) (l : List TV) (lo hi : Option TV) : slS sz (.sla k l) lo hi = if l.all (fun e => e.cells.length == sz) && !l.isEmpty then (mp l.length lo hi).map fun lh => .sl ((l.take lh.2).drop lh.1) else none := rfl
theorem zbqf (sz id o len s : Nat) (lo hi : Option TV) : slS sz (.slm id o len s) lo hi = if s = sz then (mp len lo hi).map fun lh => .slm id (o + lh.1 * sz) (lh.2 - lh.1) sz else none := rfl
theorem zb7x (n : Nat) : mp n none none = some (0,n) := rfl
theorem zb7z (n : Nat) (k : IntKind) (l : Int) : mp n (some (.int k l)) none = if 0 ≤ l ∧ l ≤ n then some (l.toNat,n) else none := rfl
theorem zb7y (n : Nat) (k : IntKind) (h : Int) : mp n none (some (.int k h)) = if 0 ≤ h ∧ h ≤ n then some (0,h.toNat) else none := by unfold mp tHi; by_cases c : 0 ≤ h ∧ h ≤ n <;> simp [c,tLo]
theorem zb70 (n : Nat) (k j : IntKind) (l h : Int) : mp n (some (.int k l)) (some (.int j h)) = if (0 ≤ h ∧ h ≤ n) ∧ 0 ≤ l ∧ l ≤ h then some (l.toNat,h.toNat) else none := by
 unfold mp tHi
 by_cases c : 0 ≤ h ∧ h ≤ n
 · have e : ((h.toNat : Nat) : Int) = h := by omega
   simp only [c,and_self,if_true,Option.bind_some,tLo,e,true_and]
 · have c' : ¬ ((0 ≤ h ∧ h ≤ n) ∧ 0 ≤ l ∧ l ≤ h) := fun q => c q.1
   rw [if_neg c']
   simp [c]
theorem zbss {α β : Type} (c : Prop) [Decidable c] (x : α) (f : α → β) : (if c then some x else none : Option α).map f = if c then some (f x) else none := by by_cases h : c <;> simp [h]
def zchz : TV → Option TV | .str s => some (.int .i64 s.size) | _ => none
theorem zb1p (x : Operand) : tG Γ dr (.lenS x) m d K fr tk τ = pK (zchz (tO fr x)) d K fr tk τ := (kw d K fr tk τ (tP (.lenS x) fr τ)).trans (by unfold zchz; rfl)
theorem zb0y (s : ByteArray) : zchz (.str s) = some (.int .i64 s.size) := rfl
def zb55 : TV → Option TV | .slm _ _ n _ => some (.int .i64 n) | v => v.list.map fun l => .int .i64 l.length
theorem zb1q (x : Operand) : tG Γ dr (.lenL x) m d K fr tk τ = pK (zb55 (tO fr x)) d K fr tk τ := (kw d K fr tk τ (tP (.lenL x) fr τ)).trans (by unfold zb55; rfl)
theorem zckc (id o n s : Nat) : zb55 (.slm id o n s) = some (.int .i64 n) := rfl
theorem zbtf (l : List TV) : zb55 (.sl l) = some (.int .i64 l.length) := rfl
theorem zckb (k : Nat) (l : List TV) : zb55 (.sla k l) = some (.int .i64 l.length) := rfl
theorem zckd : zb55 .slz = some (.int .i64 0) := rfl
def zchw (x y : TV) : Option TV := match x,y with | .int k a,.int _ b => some (.int k (if b < a then b else a)) | _,_ => none
theorem zb9q (x y : Operand) : tG Γ dr (.min x y) m d K fr tk τ = pK (zchw (tO fr x) (tO fr y)) d K fr tk τ := (kw d K fr tk τ (tP (.min x y) fr τ)).trans (by unfold zchw; rfl)
theorem zb0l (k j : IntKind) (a b : Int) : zchw (.int k a) (.int j b) = some (.int k (if b < a then b else a)) := rfl
def zchy (x y : TV) : Option TV := match x,y with | .int k a,.int _ b => some (.int k (if a < b then b else a)) | _,_ => none
theorem zb9r (x y : Operand) : tG Γ dr (.max x y) m d K fr tk τ = pK (zchy (tO fr x) (tO fr y)) d K fr tk τ := (kw d K fr tk τ (tP (.max x y) fr τ)).trans (by unfold zchy; rfl)
theorem zb0m (k j : IntKind) (a b : Int) : zchy (.int k a) (.int j b) = some (.int k (if a < b then b else a)) := rfl
theorem zcin (f : FuncId) (first captured : List Operand) : tG Γ dr (.mkFunc (.func f) first captured) m d K fr tk τ = K (fv fr d (.func f (first.map fun x => (tO fr x).canS) (captured.map fun x => (tO fr x).canS))) tk τ := rfl
def exT (i : Nat) : TV → Option TV | .tup cs => cs[i]? | _ => none
theorem zcnq (x : Operand) (i : Nat) : tG Γ dr (.extract x i) m d K fr tk τ = pK (exT i (tO fr x)) d K fr tk τ := (kw d K fr tk τ (tP (.extract x i) fr τ)).trans (by unfold exT; rfl)
theorem zb83 (i : Nat) (cs : List TV) : exT i (.tup cs) = cs[i]? := rfl
theorem zbv4 (zero : List Value) (parts : List (Nat × Nat × Operand)) : tG Γ dr (.build zero parts) m d K fr tk τ = pK ((zbyv (zero.map ofS) (parts.map fun p => (p.1,p.2.1,tO fr p.2.2))).map .agg) d K fr tk τ := (kw d K fr tk τ (tP (.build zero parts) fr τ)).trans (by rfl)
theorem zc4h (cs : List TV) : zbyv cs [] = some cs := rfl
theorem zc6j (cs : List TV) (off size : Nat) (v : TV) (r : List (Nat × Nat × TV)) : zbyv cs ((off,size,v) :: r) = if v.known = true ∧ v.cells.length = size ∧ off + size ≤ cs.length then zbyv (zbl4 cs off (v.cells.map TV.part)) r else none := rfl
theorem zcg3 (cs : List TV) (off : Nat) : zbl4 cs off [] = cs := rfl
theorem zche (cs : List TV) (off : Nat) (v : TV) (r : List TV) : zbl4 cs off (v :: r) = zbl4 (cs.set off v) (off + 1) r := rfl
def zb51 (τ : TH) : TV → Option TV | .slm id off n s => (if s = 1 then ((zbl3 τ id off n).bind zbmf).map fun bs => .str ⟨bs.toArray⟩ else none) | v => (v.list.bind zbmf).map fun bs => .str ⟨bs.toArray⟩
theorem zbvu (x : Operand) : tG Γ dr (.toStr x) m d K fr tk τ = pK (zb51 τ (tO fr x)) d K fr tk τ := (kw d K fr tk τ (tP (.toStr x) fr τ)).trans (by unfold zb51; rfl)
theorem zcm7 (l : List TV) : zb51 τ (.sl l) = (zbmf l).map fun bs => .str ⟨bs.toArray⟩ := rfl
theorem zc45 (k : Nat) (l : List TV) : zb51 τ (.sla k l) = (zbmf l).map fun bs => .str ⟨bs.toArray⟩ := rfl
theorem zcmi : zb51 τ .slz = some (.str ⟨#[]⟩) := rfl
theorem zcmh (id off n s : Nat) : zb51 τ (.slm id off n s) = if s = 1 then ((zbl3 τ id off n).bind zbmf).map fun bs => .str ⟨bs.toArray⟩ else none := rfl
def ixA (len : Nat) (x i : TV) : Option TV := match x,i with | .agg cs,.int _ n => if 0 ≤ n ∧ n < len ∧ len ≤ cs.length then cs[n.toNat]? else none | _,_ => none
theorem zc5t (len : Nat) (x i : Operand) : tG Γ dr (.indexAgg len x i) m d K fr tk τ = pK (ixA len (tO fr x) (tO fr i)) d K fr tk τ := (kw d K fr tk τ (tP (.indexAgg len x i) fr τ)).trans (by unfold ixA; rfl)
theorem zb8x (len : Nat) (cs : List TV) (k : IntKind) (n : Int) : ixA len (.agg cs) (.int k n) = if 0 ≤ n ∧ n < len ∧ len ≤ cs.length then cs[n.toNat]? else none := rfl
def zch0 (len sz : Nat) (x i : TV) : Option TV := match x,i with | .agg cs,.int _ n => if 0 ≤ n ∧ n < len ∧ len * sz ≤ cs.length then some (.agg ((cs.drop (n.toNat * sz)).take sz)) else none | _,_ => none
theorem zc69 (len sz : Nat) (x i : Operand) : tG Γ dr (.indexAggN len sz x i) m d K fr tk τ = pK (zch0 len sz (tO fr x) (tO fr i)) d K fr tk τ := (kw d K fr tk τ (tP (.indexAggN len sz x i) fr τ)).trans (by unfold zch0; rfl)
theorem zb00 (len sz : Nat) (cs : List TV) (k : IntKind) (n : Int) : zch0 len sz (.agg cs) (.int k n) = if 0 ≤ n ∧ n < len ∧ len * sz ≤ cs.length then some (.agg ((cs.drop (n.toNat * sz)).take sz)) else none := rfl
def eqA (neg : Bool) (ks : List FK) (x y : TV) : Option TV := match x,y with | .agg p,.agg q => (zb50 ks p q).map fun b => .bool (bif neg then !b else b) | _,_ => none
theorem zb9s (neg : Bool) (ks : List FK) (x y : Operand) : tG Γ dr (.eqF neg ks x y) m d K fr tk τ = pK (eqA neg ks (tO fr x) (tO fr y)) d K fr tk τ := (kw d K fr tk τ (tP (.eqF neg ks x y) fr τ)).trans (by unfold eqA; rfl)
theorem zb84 (neg : Bool) (ks : List FK) (p q : List TV) : eqA neg ks (.agg p) (.agg q) = (zb50 ks p q).map fun b => .bool (bif neg then !b else b) := rfl
theorem zb9u (t n : Nat) (x : Operand) : tG Γ dr (.box t n x) m d K fr tk τ = (((tO fr x).cells.all TV.one = true ∧ iy τ.next ((tO fr x).cells.map TV.put) = true) ∧ K (fv fr d (.ptr τ.next 0)) tk (τ.push ⟨t,(tO fr x).cells.map TV.put⟩)) := zccl d K fr _ _
def stK (n : Nat) (a x : TV) (d : Option Nat) (K : au) (fr : TF) (tk : TK) (τ : TH) : Prop := match a with
 | .ptr id off => x.cells.length = n ∧ (match zb2j τ id off (x.cells.map TV.put) with | some τ' => K (fv fr d (.tup [])) tk τ' | none => False)
 | _ => False
theorem zbvv (n : Nat) (y x : Operand) : tG Γ dr (.store n y x) 0 d K fr tk τ = stK n (tO fr y) (tO fr x) d K fr tk τ := by
 have e0 : z7 (.store n y x) 0 fr τ = (fr,τ) := rfl
 simp only [tG,e0,tOp,stK]
 cases tO fr y with
 | ptr id off =>
  by_cases h : (tO fr x).cells.length = n
  · simp only [h,if_true,true_and,show (0 : Nat) = 2 ↔ False from by decide,if_false]
    cases zb2j τ id off ((tO fr x).cells.map TV.put) <;> rfl
  · simp [h,opK]
 | _ => rfl
def stB (o : Option Ob) (id off : Nat) (vs : List TV) (d : Option Nat) (K : au) (fr : TF) (tk : TK) (τ : TH) : Prop := match o with
 | some b => (τ.lock ≤ id ∧ vs ≠ [] ∧ off + vs.length ≤ b.cs.length ∧ (vs.all TV.one = true) ∧ iy (id + 1) vs = true) ∧ K (fv fr d (.tup [])) tk (τ.put id ⟨b.t,zbl4 b.cs off vs⟩)
 | none => False
theorem zbyi (n t : Nat) (x : Operand) (id o : Nat) (T : TypeId) (cs : List TV) (hz : lkp fr t = .ptr id o) (hb : τ.at id = some ⟨T,cs⟩) (hc : τ.lock ≤ id ∧ cs ≠ []) (hx : ∀ v,x ≠ .const v)
 (h : stK n (.ptr τ.next o) (ren id τ.next (tO fr x)) d K (zbl6 id τ.next fr) tk ((τ.put id ⟨T,[]⟩).push ⟨T,cs⟩)) : tG Γ dr (.store n (.tmp t) x) 9 d K fr tk τ := by
 have hz' : tO fr (.tmp t) = .ptr id o := hz
 have e : z7 (.store n (.tmp t) x) 9 fr τ = (zbl6 id τ.next fr,(τ.put id ⟨T,[]⟩).push ⟨T,cs⟩) := by
  unfold z7 zb1y
  rw [if_pos rfl]
  simp only [hz',hb]
  rw [if_pos hc]
 have e2 : tO (zbl6 id τ.next fr) (.tmp t) = .ptr τ.next o := by
  rcases zbp2 id τ.next fr (.tmp t) with e2 | ⟨v,e2⟩
  · rw [e2,hz']; simp [ren]
  · cases e2
 have e3 : tO (zbl6 id τ.next fr) x = ren id τ.next (tO fr x) := by
  rcases zbp2 id τ.next fr x with e3 | ⟨v,e3⟩
  · exact e3
  · exact absurd e3 (hx v)
 simp only [tG,e,tOp,e2,e3]
 unfold stK at h
 simp only at h
 rw [if_neg (by decide),if_pos h.1]
 have h2 := h.2
 revert h2
 cases zb2j ((τ.put id ⟨T,[]⟩).push ⟨T,cs⟩) τ.next o ((ren id τ.next (tO fr x)).cells.map TV.put) <;> exact fun h => h
theorem zbqc (n id off : Nat) (x : TV) : stK n (.ptr id off) x d K fr tk τ = (x.cells.length = n ∧ stB (τ.at id) id off (x.cells.map TV.put) d K fr tk τ) := by
 simp only [stK,stB,zb2j]
 cases τ.at id with
 | none => rfl
 | some b =>
  simp only [Option.bind_some]
  split
  · rename_i τ' h
    split at h
    · rename_i hc; injection h with h; subst h; simp only [hc,ne_eq,not_false_eq_true,and_self,true_and]
    · cases h
  · rename_i h
    split at h
    · cases h
    · rename_i hc; simp only [hc,false_and]
theorem zcmg (t : TypeId) (cs : List TV) (id off : Nat) (vs : List TV) : stB (some ⟨t,cs⟩) id off vs d K fr tk τ = ((τ.lock ≤ id ∧ vs ≠ [] ∧ off + vs.length ≤ cs.length ∧ (vs.all TV.one = true) ∧ iy (id + 1) vs = true) ∧ K (fv fr d (.tup [])) tk (τ.put id ⟨t,zbl4 cs off vs⟩)) := rfl
def tkB (o : Option Ob) (id off : Nat) (d : Option Nat) (K : au) (fr : TF) (tk : TK) (τ : TH) : Prop := match o with
 | some b => (match b.cs[off]? with | some (.slo t l) => τ.lock ≤ id ∧ K (fv fr d (.sla tk.length l)) (tk ++ [some (l.length,t)]) (τ.put id ⟨b.t,b.cs.set off (.sl l)⟩) | some .slz => τ.lock ≤ id ∧ K (fv fr d (.sla tk.length [])) (tk ++ [some (0,0)]) (τ.put id ⟨b.t,b.cs.set off (.sl [])⟩) | _ => False)
 | none => False
def tkK (x : TV) (d : Option Nat) (K : au) (fr : TF) (tk : TK) (τ : TH) : Prop := match x with | .ptr id off => tkB (τ.at id) id off d K fr tk τ | _ => False
def tkC (t : TypeId) (cs : List TV) (id off : Nat) (v : Option TV) (d : Option Nat) (K : au) (fr : TF) (tk : TK) (τ : TH) : Prop := match v with | some (.slo u l) => τ.lock ≤ id ∧ K (fv fr d (.sla tk.length l)) (tk ++ [some (l.length,u)]) (τ.put id ⟨t,cs.set off (.sl l)⟩) | some .slz => τ.lock ≤ id ∧ K (fv fr d (.sla tk.length [])) (tk ++ [some (0,0)]) (τ.put id ⟨t,cs.set off (.sl [])⟩) | _ => False
theorem zbvx (x : Operand) : tG Γ dr (.load1 x) 2 d K fr tk τ = tkK (tO fr x) d K fr tk τ := by
 simp only [tG,tOp,tkK,if_true]
 cases tO fr x with
 | ptr id off =>
  simp only [tkB]
  cases τ.at id with
  | none => rfl
  | some b =>
   simp only [Option.bind_some]
   cases hq : b.cs[off]? with
   | none => rfl
   | some v =>
    cases v with
    | slo t l => by_cases h : τ.lock ≤ id <;> simp [h,opK]
    | slz => by_cases h : τ.lock ≤ id <;> simp [h,opK]
    | _ => rfl
 | _ => rfl
theorem zbph (id off : Nat) : tkK (.ptr id off) d K fr tk τ = tkB (τ.at id) id off d K fr tk τ := rfl
theorem zcmx (t : TypeId) (cs : List TV) (id off : Nat) : tkB (some ⟨t,cs⟩) id off d K fr tk τ = tkC t cs id off cs[off]? d K fr tk τ := rfl
theorem zcm9 (t : TypeId) (cs : List TV) (id off : Nat) : tkC t cs id off (some .slz) d K fr tk τ = (τ.lock ≤ id ∧ K (fv fr d (.sla tk.length [])) (tk ++ [some (0,0)]) (τ.put id ⟨t,cs.set off (.sl [])⟩)) := rfl
theorem zcm8 (t u : TypeId) (cs l : List TV) (id off : Nat) : tkC t cs id off (some (.slo u l)) d K fr tk τ = (τ.lock ≤ id ∧ K (fv fr d (.sla tk.length l)) (tk ++ [some (l.length,u)]) (τ.put id ⟨t,cs.set off (.sl l)⟩)) := rfl
def s2K (n : Nat) (a x : TV) (d : Option Nat) (K : au) (fr : TF) (tk : TK) (τ : TH) : Prop := match a,x with
 | .ptr id off,.sla tok l => (match tk[tok]? with
  | some (some (k,t)) => (k = l.length ∧ n = 1) ∧ stB (τ.at id) id off [.slo t l] d K fr (tk.set tok none) τ
  | _ => False)
 | _,_ => False
def s2T (o : Option (Option (Nat × TypeId))) (n id off tok : Nat) (l : List TV) (d : Option Nat) (K : au) (fr : TF) (tk : TK) (τ : TH) : Prop := match o with
 | some (some (k,t)) => (k = l.length ∧ n = 1) ∧ stB (τ.at id) id off [.slo t l] d K fr (tk.set tok none) τ
 | _ => False
theorem zcip (n : Nat) (y x : Operand) : tG Γ dr (.store n y x) 2 d K fr tk τ = s2K n (tO fr y) (tO fr x) d K fr tk τ := by
 have e0 : z7 (.store n y x) 2 fr τ = (fr,τ) := rfl
 simp only [tG,e0,tOp,s2K,if_true]
 cases tO fr y with
 | ptr id off =>
  cases tO fr x with
  | sla tok l =>
   simp only
   cases tk[tok]? with
   | none => rfl
   | some o =>
    cases o with
    | none => rfl
    | some p =>
     obtain ⟨k,t⟩ := p
     by_cases h : k = l.length ∧ n = 1
     · simp only [h,and_self,if_true,true_and,zb2j,stB]
       cases τ.at id with
       | none => rfl
       | some b =>
        simp only [Option.bind_some]
        by_cases hc : τ.lock ≤ id ∧ [TV.slo t l] ≠ [] ∧ off + [TV.slo t l].length ≤ b.cs.length ∧ ([TV.slo t l].all TV.one = true) ∧ iy (id + 1) [TV.slo t l] = true
        · rw [if_pos hc]; simp only [hc,ne_eq,not_false_eq_true,and_self,true_and]; rfl
        · rw [if_neg hc]; simp only [hc,false_and]; rfl
     · simp only [h,if_false,false_and]; rfl
  | _ => rfl
 | _ => rfl
theorem zbqq (n id off tok : Nat) (l : List TV) : s2K n (.ptr id off) (.sla tok l) d K fr tk τ = s2T (tk[tok]?) n id off tok l d K fr tk τ := rfl
theorem zcm3 (n id off tok k t : Nat) (l : List TV) : s2T (some (some (k,t))) n id off tok l d K fr tk τ = ((k = l.length ∧ n = 1) ∧ stB (τ.at id) id off [.slo t l] d K fr (tk.set tok none) τ) := rfl
def bsO (m : Nat) (t sz : Nat) (o : Option (List TV)) (d : Option Nat) (K : au) (fr : TF) (tk : TK) (τ : TH) : Prop := match o with | some l => (if m = 1 then K (fv fr d (.slm τ.next 0 l.length sz)) tk (τ.push ⟨t,l.flatMap TV.cells⟩) else if m = 2 then (l ≠ [] ∧ l.length ≤ maxLen) ∧ K (fv fr d (.sla tk.length l)) (tk ++ [some (l.length,t)]) τ else K (fv fr d (.sl l)) tk τ) | none => False
theorem zcnp (t sz len : Nat) (zeros : List Value) (parts : List (Nat × Nat × Operand)) : tG Γ dr (.buildSl t sz len zeros parts) m d K fr tk τ = ((parts.length = len ∧ sz ≠ 0 ∧ zeros.length = len * sz) ∧ bsO m t sz (zboz sz 0 (parts.map fun p => (p.1,p.2.1,tO fr p.2.2))) d K fr tk τ) := by
 simp only [tG,tOp,bsO]
 by_cases h : parts.length = len ∧ sz ≠ 0 ∧ zeros.length = len * sz
 · rw [if_pos h]
   cases zboz sz 0 (parts.map fun p => (p.1,p.2.1,tO fr p.2.2)) with
   | none => exact propext ⟨False.elim,fun q => q.2⟩
   | some l =>
    simp only [Option.bind_some,and_iff_right h]
    by_cases h1 : m = 1
    · rw [if_pos h1,if_pos h1]; rfl
    · rw [if_neg h1,if_neg h1]
      by_cases h2 : m = 2
      · rw [if_pos h2,if_pos h2]
        by_cases h3 : l ≠ [] ∧ l.length ≤ maxLen
        · rw [if_pos h3]; exact propext ⟨fun q => ⟨h3,q⟩,fun q => q.2⟩
        · rw [if_neg h3]; exact propext ⟨False.elim,fun q => h3 q.1⟩
      · rw [if_neg h2,if_neg h2]; rfl
 · rw [if_neg h]; simp only [h,false_and]; rfl
theorem zb9b (t sz : Nat) (l : List TV) : bsO 0 t sz (some l) d K fr tk τ = K (fv fr d (.sl l)) tk τ := rfl
theorem zb9a (t sz : Nat) (l : List TV) : bsO 1 t sz (some l) d K fr tk τ = K (fv fr d (.slm τ.next 0 l.length sz)) tk (τ.push ⟨t,l.flatMap TV.cells⟩) := rfl
theorem zb89 (t sz : Nat) (l : List TV) : bsO 2 t sz (some l) d K fr tk τ = ((l ≠ [] ∧ l.length ≤ maxLen) ∧ K (fv fr d (.sla tk.length l)) (tk ++ [some (l.length,t)]) τ) := rfl
theorem zc6i (sz i : Nat) : zboz sz i [] = some [] := rfl
theorem zc77 (sz i off n : Nat) (v : TV) (r : List (Nat × Nat × TV)) : zboz sz i ((off,n,v) :: r) = if off = i * sz ∧ n = sz ∧ v.canA.cells.length = sz ∧ v.canA.pure = true then (zboz sz (i + 1) r).map (v.canA :: ·) else none := rfl
def msK (mu : Bool) (t bytes : Nat) (zero : List Value) (l c : TV) (d : Option Nat) (K : au) (fr : TF) (tk : TK) (τ : TH) : Prop := match l,c with
 | .int _ n,.int _ k => (0 ≤ n ∧ n ≤ k ∧ k * bytes ≤ 140737488355328 ∧ k ≤ 9223372036854775807 ∧ zero.length ≠ 0 ∧ (zero.all fun z => (ofS z).canS.pureS) = true) ∧
  (bif mu then K (fv fr d (.slm τ.next 0 n.toNat zero.length)) tk (τ.push ⟨t,((List.replicate n.toNat (zero.map fun z => (ofS z).put)).flatten)⟩) else K (fv fr d (.sl (List.replicate n.toNat (zbmv (zero.map fun z => (ofS z).canS))))) tk τ)
 | _,_ => False
theorem zcns (t bytes : Nat) (zero : List Value) (l c : Operand) : tG Γ dr (.makeSl t bytes zero l c) 0 d K fr tk τ = msK false t bytes zero (tO fr l) (tO fr c) d K fr tk τ := by
 simp only [tG,tOp,msK]
 cases tO fr l with
 | int k1 n =>
  cases tO fr c with
  | int k2 k =>
   simp only
   by_cases h : 0 ≤ n ∧ n ≤ k ∧ k * bytes ≤ 140737488355328 ∧ k ≤ 9223372036854775807 ∧ zero.length ≠ 0 ∧ (zero.all fun z => (ofS z).canS.pureS) = true
   · rw [if_pos h]; simp only [h,ne_eq,not_false_eq_true,and_self,true_and]; rfl
   · rw [if_neg h]; simp only [h,false_and]; rfl
  | _ => rfl
 | _ => rfl
theorem zcnt (t bytes : Nat) (zero : List Value) (l c : Operand) : tG Γ dr (.makeSl t bytes zero l c) 1 d K fr tk τ = msK true t bytes zero (tO fr l) (tO fr c) d K fr tk τ := by
 simp only [tG,tOp,msK]
 cases tO fr l with
 | int k1 n =>
  cases tO fr c with
  | int k2 k =>
   simp only
   by_cases h : 0 ≤ n ∧ n ≤ k ∧ k * bytes ≤ 140737488355328 ∧ k ≤ 9223372036854775807 ∧ zero.length ≠ 0 ∧ (zero.all fun z => (ofS z).canS.pureS) = true
   · rw [if_pos h]; simp only [h,ne_eq,not_false_eq_true,and_self,true_and]; rfl
   · rw [if_neg h]; simp only [h,false_and]; rfl
  | _ => rfl
 | _ => rfl
def msA (t bytes : Nat) (zero : List Value) (l c : TV) (d : Option Nat) (K : au) (fr : TF) (tk : TK) (τ : TH) : Prop := match l,c with
 | .int _ n,.int _ k => (0 ≤ n ∧ n ≤ k ∧ k * bytes ≤ 140737488355328 ∧ k ≤ 9223372036854775807 ∧ zero.length ≠ 0 ∧ (zero.all fun z => (ofS z).canS.pureS) = true) ∧ (n = 0 ∧ zero.length = 1) ∧ K (fv fr d (.slb tk.length t)) (tk ++ [some (0,t)]) τ
 | _,_ => False
theorem zcnu (t bytes : Nat) (zero : List Value) (l c : Operand) : tG Γ dr (.makeSl t bytes zero l c) 2 d K fr tk τ = msA t bytes zero (tO fr l) (tO fr c) d K fr tk τ := by
 simp only [tG,tOp,msA]
 cases tO fr l with
 | int k1 n =>
  cases tO fr c with
  | int k2 k =>
   simp only
   by_cases h : 0 ≤ n ∧ n ≤ k ∧ k * bytes ≤ 140737488355328 ∧ k ≤ 9223372036854775807 ∧ zero.length ≠ 0 ∧ (zero.all fun z => (ofS z).canS.pureS) = true
   · rw [if_pos h,if_neg (by decide),if_pos trivial]
     by_cases h2 : n = 0 ∧ zero.length = 1
     · rw [if_pos h2]; exact propext ⟨fun q => ⟨h,h2,q⟩,fun q => q.2.2⟩
     · rw [if_neg h2]; exact propext ⟨False.elim,fun q => h2 q.2.1⟩
   · rw [if_neg h]; simp only [h,false_and]; rfl
  | _ => rfl
 | _ => rfl
theorem zb8n (t bytes : Nat) (zero : List Value) (j1 j2 : IntKind) (n k : Int) : msA t bytes zero (.int j1 n) (.int j2 k) d K fr tk τ = ((0 ≤ n ∧ n ≤ k ∧ k * bytes ≤ 140737488355328 ∧ k ≤ 9223372036854775807 ∧ zero.length ≠ 0 ∧ (zero.all fun z => (ofS z).canS.pureS) = true) ∧ (n = 0 ∧ zero.length = 1) ∧ K (fv fr d (.slb tk.length t)) (tk ++ [some (0,t)]) τ) := rfl
theorem zb8m (mu : Bool) (t bytes : Nat) (zero : List Value) (j1 j2 : IntKind) (n k : Int) : msK mu t bytes zero (.int j1 n) (.int j2 k) d K fr tk τ = ((0 ≤ n ∧ n ≤ k ∧ k * bytes ≤ 140737488355328 ∧ k ≤ 9223372036854775807 ∧ zero.length ≠ 0 ∧ (zero.all fun z => (ofS z).canS.pureS) = true) ∧ (bif mu then K (fv fr d (.slm τ.next 0 n.toNat zero.length)) tk (τ.push ⟨t,((List.replicate n.toNat (zero.map fun z => (ofS z).put)).flatten)⟩) else K (fv fr d (.sl (List.replicate n.toNat (zbmv (zero.map fun z => (ofS z).canS))))) tk τ)) := rfl
def apK (t sz bytes : Nat) (s : TV) (o : Option (List TV)) (d : Option Nat) (K : au) (fr : TF) (tk : TK) (τ : TH) : Prop := match o with
 | some xs => (match zbm7 t sz bytes s xs tk with | some (v,tk') => K (fv fr d v) tk' τ | none => False)
 | none => False
def apT (o : Option (Option (Nat × TypeId))) (t sz bytes tok : Nat) (l xs : List TV) (d : Option Nat) (K : au) (fr : TF) (tk : TK) (τ : TH) : Prop := match o with
 | some (some (n,t')) => ((xs.all (fun e => e.cells.length == sz && e.pure) = true ∧ xs.length * bytes ≤ 140737488355328 ∧ xs.length ≤ maxLen) ∧ n = l.length ∧ (n = 0 ∨ t' = t) ∧ (l.all (fun e => e.cells.length == sz) = true) ∧ (l.length + xs.length) * bytes ≤ 140737488355328 ∧ l.length + xs.length ≤ maxLen) ∧
  K (fv fr d (.sla tok (l ++ xs))) (tk.set tok (some (l.length + xs.length,t))) τ
 | _ => False
theorem zcij (t sz bytes : Nat) (s x : Operand) : tG Γ dr (.append t sz bytes s x) 0 d K fr tk τ = (sz ≠ 0 ∧ apK t sz bytes (tO fr s) (tO fr x).list d K fr tk τ) := by
 simp only [tG,tOp,apK]
 by_cases h : sz = 0
 · simp [h,opK]
 · simp only [h,if_false,ne_eq,not_false_eq_true,true_and]
   cases (tO fr x).list with
   | none => rfl
   | some xs =>
    simp only [Option.bind_some,show (0 : Nat) = 1 ↔ False from by decide,if_false]
    cases zbm7 t sz bytes (tO fr s) xs tk <;> rfl
def amK (t sz bytes : Nat) (s : TV) (o : Option (List TV)) (d : Option Nat) (K : au) (fr : TF) (tk : TK) (τ : TH) : Prop := match o with
 | some xs => (match zbm6 t sz bytes s xs τ with | some (v,τ') => K (fv fr d v) tk τ' | none => False)
 | none => False
def amO (b : Option Ob) (t sz bytes id n : Nat) (xs : List TV) (d : Option Nat) (K : au) (fr : TF) (tk : TK) (τ : TH) : Prop := match b with
 | some b => (b.t = t ∧ b.cs.length = n * sz ∧ n ≠ 0 ∧ τ.lock ≤ id ∧ (n + xs.length) * bytes ≤ 140737488355328 ∧ n + xs.length ≤ maxLen) ∧ K (fv fr d (.slm τ.next 0 (n + xs.length) sz)) tk ((τ.put id ⟨t,[]⟩).push ⟨t,b.cs ++ xs.flatMap TV.cells⟩)
 | none => False
theorem zcna (t sz bytes : Nat) (s x : Operand) : tG Γ dr (.append t sz bytes s x) 1 d K fr tk τ = (sz ≠ 0 ∧ amK t sz bytes (tO fr s) (tO fr x).list d K fr tk τ) := by
 simp only [tG,tOp,amK]
 by_cases h : sz = 0
 · simp [h,opK]
 · simp only [h,if_false,ne_eq,not_false_eq_true,true_and]
   cases (tO fr x).list with
   | none => rfl
   | some xs =>
    simp only [Option.bind_some,if_true]
    cases zbm6 t sz bytes (tO fr s) xs τ <;> rfl
theorem zbu9 (t sz bytes : Nat) (xs : List TV) : amK t sz bytes .slz (some xs) d K fr tk τ = ((xs ≠ [] ∧ xs.all (fun e => e.cells.length == sz && e.pure) = true) ∧ (xs.length * bytes ≤ 140737488355328 ∧ xs.length ≤ maxLen) ∧ K (fv fr d (.slm τ.next 0 xs.length sz)) tk (τ.push ⟨t,xs.flatMap TV.cells⟩)) := by
 simp only [amK,zbm6]
 by_cases h : xs ≠ [] ∧ xs.all (fun e => e.cells.length == sz && e.pure) = true
 · rw [if_pos h]
   by_cases h2 : xs.length * bytes ≤ 140737488355328 ∧ xs.length ≤ maxLen
   · rw [if_pos h2]; exact propext ⟨fun q => ⟨h,h2,q⟩,fun q => q.2.2⟩
   · rw [if_neg h2]; exact propext ⟨False.elim,fun q => h2 q.2.1⟩
 · rw [if_neg h]; exact propext ⟨False.elim,fun q => h q.1⟩
theorem zbva (t sz bytes id n : Nat) (xs : List TV) : amK t sz bytes (.slm id 0 n sz) (some xs) d K fr tk τ = ((xs ≠ [] ∧ xs.all (fun e => e.cells.length == sz && e.pure) = true) ∧ amO (τ.at id) t sz bytes id n xs d K fr tk τ) := by
 simp only [amK,zbm6,amO]
 by_cases h : xs ≠ [] ∧ xs.all (fun e => e.cells.length == sz && e.pure) = true
 · rw [if_pos h]
   cases τ.at id with
   | none => exact propext ⟨False.elim,fun q => q.2⟩
   | some b =>
    simp only [Option.bind_some,true_and]
    by_cases h2 : b.t = t ∧ b.cs.length = n * sz ∧ n ≠ 0 ∧ τ.lock ≤ id ∧ (n + xs.length) * bytes ≤ 140737488355328 ∧ n + xs.length ≤ maxLen
    · rw [if_pos h2]; exact propext ⟨fun q => ⟨h,h2,q⟩,fun q => q.2.2⟩
    · rw [if_neg h2]; exact propext ⟨False.elim,fun q => h2 q.2.1⟩
 · rw [if_neg h]; exact propext ⟨False.elim,fun q => h q.1⟩
theorem zcir (t u sz bytes id n : Nat) (cs xs : List TV) : amO (some ⟨u,cs⟩) t sz bytes id n xs d K fr tk τ = ((u = t ∧ cs.length = n * sz ∧ n ≠ 0 ∧ τ.lock ≤ id ∧ (n + xs.length) * bytes ≤ 140737488355328 ∧ n + xs.length ≤ maxLen) ∧ K (fv fr d (.slm τ.next 0 (n + xs.length) sz)) tk ((τ.put id ⟨t,[]⟩).push ⟨t,cs ++ xs.flatMap TV.cells⟩)) := rfl
def atK (t sz bytes : Nat) (s : TV) (o : Option (List TV)) (d : Option Nat) (K : au) (fr : TF) (tk : TK) (τ : TH) : Prop := match o with
 | some xs => (match zbpz t sz bytes s xs τ with | some (v,τ') => K (fv fr d v) tk τ' | none => False)
 | none => False
def atO (b : Option Ob) (t sz bytes id n : Nat) (xs : List TV) (d : Option Nat) (K : au) (fr : TF) (tk : TK) (τ : TH) : Prop := match b with
 | some b => (b.t = t ∧ n * sz ≤ b.cs.length ∧ b.cs ≠ [] ∧ τ.lock ≤ id ∧ (n + xs.length) * bytes ≤ 140737488355328 ∧ n + xs.length ≤ maxLen) ∧ K (fv fr d (.slm τ.next 0 (n + xs.length) sz)) tk ((τ.put id ⟨t,[]⟩).push ⟨t,b.cs.take (n * sz) ++ xs.flatMap TV.cells⟩)
 | none => False
theorem zcnb (t sz bytes : Nat) (s x : Operand) : tG Γ dr (.append t sz bytes s x) 4 d K fr tk τ = (sz ≠ 0 ∧ atK t sz bytes (tO fr s) (tO fr x).list d K fr tk τ) := by
 simp only [tG,tOp,atK]
 by_cases h : sz = 0
 · simp [h,opK]
 · simp only [h,if_false,ne_eq,not_false_eq_true,true_and]
   cases (tO fr x).list with
   | none => rfl
   | some xs =>
    simp only [Option.bind_some,if_true]
    cases zbpz t sz bytes (tO fr s) xs τ <;> rfl
theorem zbu0 (t sz bytes id n : Nat) (xs : List TV) : atK t sz bytes (.slm id 0 n sz) (some xs) d K fr tk τ = ((xs ≠ [] ∧ xs.all (fun e => e.cells.length == sz && e.pure) = true) ∧ atO (τ.at id) t sz bytes id n xs d K fr tk τ) := by
 simp only [atK,zbpz,atO]
 by_cases h : xs ≠ [] ∧ xs.all (fun e => e.cells.length == sz && e.pure) = true
 · rw [if_pos h]
   cases τ.at id with
   | none => exact propext ⟨False.elim,fun q => q.2⟩
   | some b =>
    simp only [Option.bind_some,true_and]
    by_cases h2 : b.t = t ∧ n * sz ≤ b.cs.length ∧ b.cs ≠ [] ∧ τ.lock ≤ id ∧ (n + xs.length) * bytes ≤ 140737488355328 ∧ n + xs.length ≤ maxLen
    · rw [if_pos h2]; exact propext ⟨fun q => ⟨h,h2,q⟩,fun q => q.2.2⟩
    · rw [if_neg h2]; exact propext ⟨False.elim,fun q => h2 q.2.1⟩
 · rw [if_neg h]; exact propext ⟨False.elim,fun q => h q.1⟩
theorem zciv (t u sz bytes id n : Nat) (cs xs : List TV) : atO (some ⟨u,cs⟩) t sz bytes id n xs d K fr tk τ = ((u = t ∧ n * sz ≤ cs.length ∧ cs ≠ [] ∧ τ.lock ≤ id ∧ (n + xs.length) * bytes ≤ 140737488355328 ∧ n + xs.length ≤ maxLen) ∧ K (fv fr d (.slm τ.next 0 (n + xs.length) sz)) tk ((τ.put id ⟨t,[]⟩).push ⟨t,cs.take (n * sz) ++ xs.flatMap TV.cells⟩)) := rfl
theorem zbu6 (t sz bytes : Nat) (xs : List TV) : apK t sz bytes .slz (some xs) d K fr tk τ = ((xs.all (fun e => e.cells.length == sz && e.pure) = true ∧ xs.length * bytes ≤ 140737488355328 ∧ xs.length ≤ maxLen) ∧ K (fv fr d (.sla tk.length xs)) (tk ++ [some (xs.length,t)]) τ) := by
 simp only [apK,zbm7]
 by_cases h : xs.all (fun e => e.cells.length == sz && e.pure) = true ∧ xs.length * bytes ≤ 140737488355328 ∧ xs.length ≤ maxLen
 · rw [if_pos h]; simp only [h,and_self,true_and]
 · rw [if_neg h]; simp only [h,false_and]
theorem zbu8 (t sz bytes tok : Nat) (l xs : List TV) : apK t sz bytes (.sla tok l) (some xs) d K fr tk τ = apT (tk[tok]?) t sz bytes tok l xs d K fr tk τ := by
 simp only [apK,zbm7,apT]
 by_cases h : xs.all (fun e => e.cells.length == sz && e.pure) = true ∧ xs.length * bytes ≤ 140737488355328 ∧ xs.length ≤ maxLen
 · rw [if_pos h]
   cases tk[tok]? with
   | none => rfl
   | some o =>
    cases o with
    | none => rfl
    | some p =>
     obtain ⟨n,t'⟩ := p
     simp only
     by_cases h2 : n = l.length ∧ (n = 0 ∨ t' = t) ∧ (l.all (fun e => e.cells.length == sz) = true) ∧ (l.length + xs.length) * bytes ≤ 140737488355328 ∧ l.length + xs.length ≤ maxLen
     · rw [if_pos h2]; exact propext ⟨fun q => ⟨⟨h,h2⟩,q⟩,fun q => q.2⟩
     · rw [if_neg h2]; simp only [h2,and_false,false_and]
 · rw [if_neg h]
   cases tk[tok]? with
   | none => rfl
   | some o =>
    cases o with
    | none => rfl
    | some p => simp only [h,false_and]
theorem zcit (n t' t sz bytes tok : Nat) (l xs : List TV) : apT (some (some (n,t'))) t sz bytes tok l xs d K fr tk τ = (((xs.all (fun e => e.cells.length == sz && e.pure) = true ∧ xs.length * bytes ≤ 140737488355328 ∧ xs.length ≤ maxLen) ∧ n = l.length ∧ (n = 0 ∨ t' = t) ∧ (l.all (fun e => e.cells.length == sz) = true) ∧ (l.length + xs.length) * bytes ≤ 140737488355328 ∧ l.length + xs.length ≤ maxLen) ∧ K (fv fr d (.sla tok (l ++ xs))) (tk.set tok (some (l.length + xs.length,t))) τ) := rfl
def apB (o : Option (Option (Nat × TypeId))) (t sz bytes tok t0 : Nat) (xs : List TV) (d : Option Nat) (K : au) (fr : TF) (tk : TK) (τ : TH) : Prop := match o with
 | some (some (n,t')) => ((xs.all (fun e => e.cells.length == sz && e.pure) = true ∧ xs.length * bytes ≤ 140737488355328 ∧ xs.length ≤ maxLen) ∧ n = 0 ∧ t0 = t ∧ sz = 1 ∧ xs ≠ []) ∧
  K (fv fr d (.sla tok xs)) (tk.set tok (some (xs.length,t))) τ
 | _ => False
theorem zbu7 (t sz bytes tok t0 : Nat) (xs : List TV) : apK t sz bytes (.slb tok t0) (some xs) d K fr tk τ = apB (tk[tok]?) t sz bytes tok t0 xs d K fr tk τ := by
 simp only [apK,zbm7,apB]
 by_cases h : xs.all (fun e => e.cells.length == sz && e.pure) = true ∧ xs.length * bytes ≤ 140737488355328 ∧ xs.length ≤ maxLen
 · rw [if_pos h]
   cases tk[tok]? with
   | none => rfl
   | some o =>
    cases o with
    | none => rfl
    | some p =>
     obtain ⟨n,t'⟩ := p
     simp only
     by_cases h2 : n = 0 ∧ t0 = t ∧ sz = 1 ∧ xs ≠ []
     · rw [if_pos h2]; exact propext ⟨fun q => ⟨⟨h,h2⟩,q⟩,fun q => q.2⟩
     · rw [if_neg h2]; simp only [h2,and_false,false_and]
 · rw [if_neg h]
   cases tk[tok]? with
   | none => rfl
   | some o =>
    cases o with
    | none => rfl
    | some p => simp only [h,false_and]
theorem zcis (n t' t sz bytes tok t0 : Nat) (xs : List TV) : apB (some (some (n,t'))) t sz bytes tok t0 xs d K fr tk τ = (((xs.all (fun e => e.cells.length == sz && e.pure) = true ∧ xs.length * bytes ≤ 140737488355328 ∧ xs.length ≤ maxLen) ∧ n = 0 ∧ t0 = t ∧ sz = 1 ∧ xs ≠ []) ∧ K (fv fr d (.sla tok xs)) (tk.set tok (some (xs.length,t))) τ) := rfl
def asK (t : Nat) (s x : TV) (d : Option Nat) (K : au) (fr : TF) (tk : TK) (τ : TH) : Prop := match x with | .str b => apK t 1 1 s (some (ik b)) d K fr tk τ | _ => False
theorem zcno (t : Nat) (s x : Operand) : tG Γ dr (.appendS t s x) m d K fr tk τ = asK t (tO fr s) (tO fr x) d K fr tk τ := by
 simp only [tG,tOp,asK,apK]
 cases tO fr x with
 | str b => simp only; cases zbm7 t 1 1 (tO fr s) (ik b) tk <;> rfl
 | _ => rfl
theorem zb9d (t : Nat) (s : TV) (b : ByteArray) : asK t s (.str b) d K fr tk τ = apK t 1 1 s (some (ik b)) d K fr tk τ := rfl
def tbK (mu : Bool) (t : Nat) (x : TV) (d : Option Nat) (K : au) (fr : TF) (tk : TK) (τ : TH) : Prop := match x with | .str s => (bif mu then K (fv fr d (.slm τ.next 0 s.size 1)) tk (τ.push ⟨t,ik s⟩) else K (fv fr d (.sl (ik s))) tk τ) | _ => False
theorem zc5x (t : Nat) (x : Operand) : tG Γ dr (.toBytes t x) 0 d K fr tk τ = tbK false t (tO fr x) d K fr tk τ := by
 simp only [tG,tOp,tbK]
 cases tO fr x <;> rfl
theorem zc5y (t : Nat) (x : Operand) : tG Γ dr (.toBytes t x) 1 d K fr tk τ = tbK true t (tO fr x) d K fr tk τ := by
 simp only [tG,tOp,tbK]
 cases tO fr x <;> rfl
def tbA (t : Nat) (x : TV) (d : Option Nat) (K : au) (fr : TF) (tk : TK) (τ : TH) : Prop := match x with | .str s => K (fv fr d (if s.size = 0 then .slb tk.length t else .sla tk.length (ik s))) (tk ++ [some (s.size,t)]) τ | _ => False
theorem zc5z (t : Nat) (x : Operand) : tG Γ dr (.toBytes t x) 2 d K fr tk τ = tbA t (tO fr x) d K fr tk τ := by
 simp only [tG,tOp,tbA]
 cases tO fr x <;> rfl
theorem zb72 (t : Nat) (s : ByteArray) : tbA t (.str s) d K fr tk τ = K (fv fr d (if s.size = 0 then .slb tk.length t else .sla tk.length (ik s))) (tk ++ [some (s.size,t)]) τ := rfl
theorem zb71 (mu : Bool) (t : Nat) (s : ByteArray) : tbK mu t (.str s) d K fr tk τ = (bif mu then K (fv fr d (.slm τ.next 0 s.size 1)) tk (τ.push ⟨t,ik s⟩) else K (fv fr d (.sl (ik s))) tk τ) := rfl
theorem zb9n (t : Nat) : tO fr (.tmp t) = lkp fr t := rfl
theorem zb1j (k : IntKind) (n : Int) : tO fr (.const (.int k n)) = .int k n := rfl
theorem zbvs (c : Bool) : tO fr (.const (.bool c)) = .bool c := rfl
theorem zb1i (s : ByteArray) : tO fr (.const (.string s)) = .str s := rfl
theorem zbvo : tO fr (.const (.pointer none)) = .nilP := rfl
theorem zbvn : tO fr (.const (.slice none 0 0)) = .slz := rfl
theorem zbvp : tO fr (.const (.map none)) = .nilM := rfl
theorem zbvr : tO fr (.const .nilFunc) = .nilF := rfl
theorem zbvq : tO fr (.const .nilIface) = .nilI := rfl
theorem zb1h (f : FuncId) : tO fr (.func f) = .func f [] [] := rfl
theorem zb1k (cs : List Value) : tO fr (.const (.agg cs.toArray)) = .agg (cs.map ofS) := rfl
theorem zbsm (k : IntKind) (n : Int) : ofS (.int k n) = .int k n := rfl
theorem zckr (c : Bool) : ofS (.bool c) = .bool c := rfl
theorem zbsl (s : ByteArray) : ofS (.string s) = .str s := rfl
theorem zckv : ofS (.pointer none) = .nilP := rfl
theorem zckw : ofS (.slice none 0 0) = .slz := rfl
theorem zcku : ofS (.map none) = .nilM := rfl
theorem zcks : ofS .nilFunc = .nilF := rfl
theorem zckt : ofS .nilIface = .nilI := rfl
theorem zbtb (t : Nat) (v : TV) (l : TF) : lkp ((t,v) :: l) t = v := by simp [lkp]
theorem zcki (t k : Nat) (v : TV) (l : TF) (h : (t = k) = False) : lkp ((k,v) :: l) t = lkp l t := by simp [lkp,h]
theorem zc4m (t : Nat) (v : TV) : fv fr (some t) v = (t,v) :: fr := rfl
theorem zc4l (v : TV) : fv fr none v = fr := rfl
theorem zbzy : sel lv fr = lv.map fun t => (t,lkp fr t) := rfl
theorem zciu (k : Nat) : zbwm k [] = [] := rfl
theorem zcne (k : Nat) (v : TV) (l : List TV) : zbwm k (v :: l) = (k,v) :: zbwm (k + 1) l := rfl
end
theorem zc7f : TV.cells TV.undef = [TV.undef ] := rfl
theorem zc5f (b : Bool) : TV.cells (TV.bool b) = [TV.bool b] := rfl
theorem zcn2 (k : IntKind) (n : Int) : TV.cells (TV.int k n) = [TV.int k n] := rfl
theorem zcn9 (s : ByteArray) : TV.cells (TV.str s) = [TV.str s] := rfl
theorem zc5k : TV.cells TV.nilP = [TV.nilP ] := rfl
theorem zcn3 (id off : Nat) : TV.cells (TV.ptr id off) = [TV.ptr id off] := rfl
theorem zc5l (cs : List TV) (off : Nat) : TV.cells (TV.rptr cs off) = [TV.rptr cs off] := rfl
theorem zcn8 : TV.cells TV.slz = [TV.slz ] := rfl
theorem zckj (l : List TV) : TV.cells (TV.sl l) = [TV.sl l] := rfl
theorem zcn4 (k : Nat) (l : List TV) : TV.cells (TV.sla k l) = [TV.sla k l] := rfl
theorem zcn5 (k : Nat) (t : TypeId) : TV.cells (TV.slb k t) = [TV.slb k t] := rfl
theorem zcn7 (t : TypeId) (l : List TV) : TV.cells (TV.slo t l) = [TV.slo t l] := rfl
theorem zcn6 (id off n sz : Nat) : TV.cells (TV.slm id off n sz) = [TV.slm id off n sz] := rfl
theorem zc5j : TV.cells TV.nilM = [TV.nilM ] := rfl
theorem zc5h : TV.cells TV.nilF = [TV.nilF ] := rfl
theorem zc5g (f : FuncId) (a b : List TV) : TV.cells (TV.func f a b) = [TV.func f a b] := rfl
theorem zc5i : TV.cells TV.nilI = [TV.nilI ] := rfl
theorem zcn1 (cs : List TV) : TV.cells (TV.agg cs) = cs := rfl
theorem zcoa (cs : List TV) : TV.cells (TV.tup cs) = [TV.tup cs] := rfl
theorem zcpy : TV.one TV.undef = false := rfl
theorem zckx (b : Bool) : TV.one (TV.bool b) = true := rfl
theorem zbsd (k : IntKind) (n : Int) : TV.one (TV.int k n) = true := rfl
theorem zbr6 (s : ByteArray) : TV.one (TV.str s) = true := rfl
theorem zck2 : TV.one TV.nilP = true := rfl
theorem zbsc (id off : Nat) : TV.one (TV.ptr id off) = true := rfl
theorem zck3 (cs : List TV) (off : Nat) : TV.one (TV.rptr cs off) = false := rfl
theorem zbr7 : TV.one TV.slz = true := rfl
theorem zb0j (l : List TV) : TV.one (TV.sl l) = true := rfl
theorem zbsb (k : Nat) (l : List TV) : TV.one (TV.sla k l) = true := rfl
theorem zbsa (k : Nat) (t : TypeId) : TV.one (TV.slb k t) = true := rfl
theorem zbr8 (t : TypeId) (l : List TV) : TV.one (TV.slo t l) = true := rfl
theorem zbr9 (id off n sz : Nat) : TV.one (TV.slm id off n sz) = true := rfl
theorem zck1 : TV.one TV.nilM = true := rfl
theorem zckz : TV.one TV.nilF = true := rfl
theorem zcky (f : FuncId) (a b : List TV) : TV.one (TV.func f a b) = true := rfl
theorem zck0 : TV.one TV.nilI = true := rfl
theorem zbse (cs : List TV) : TV.one (TV.agg cs) = false := rfl
theorem zbr5 (cs : List TV) : TV.one (TV.tup cs) = false := rfl
theorem zc7i : TV.known TV.undef = false := rfl
theorem zc6p (b : Bool) : TV.known (TV.bool b) = true := rfl
theorem zcor (k : IntKind) (n : Int) : TV.known (TV.int k n) = true := rfl
theorem zcoy (s : ByteArray) : TV.known (TV.str s) = true := rfl
theorem zc6u : TV.known TV.nilP = true := rfl
theorem zcos (id off : Nat) : TV.known (TV.ptr id off) = true := rfl
theorem zc6v (cs : List TV) (off : Nat) : TV.known (TV.rptr cs off) = true := rfl
theorem zcox : TV.known TV.slz = true := rfl
theorem zcj8 (l : List TV) : TV.known (TV.sl l) = true := rfl
theorem zcot (k : Nat) (l : List TV) : TV.known (TV.sla k l) = true := rfl
theorem zcou (k : Nat) (t : TypeId) : TV.known (TV.slb k t) = true := rfl
theorem zcow (t : TypeId) (l : List TV) : TV.known (TV.slo t l) = true := rfl
theorem zcov (id off n sz : Nat) : TV.known (TV.slm id off n sz) = true := rfl
theorem zc6t : TV.known TV.nilM = true := rfl
theorem zc6r : TV.known TV.nilF = true := rfl
theorem zc6q (f : FuncId) (a b : List TV) : TV.known (TV.func f a b) = true := rfl
theorem zc6s : TV.known TV.nilI = true := rfl
theorem zcoq (cs : List TV) : TV.known (TV.agg cs) = true := rfl
theorem zcoz (cs : List TV) : TV.known (TV.tup cs) = true := rfl
theorem zc5c : TV.canS TV.undef = TV.undef := rfl
theorem zcoh (b : Bool) : TV.canS (TV.bool b) = TV.bool b := rfl
theorem zci2 (k : IntKind) (n : Int) : TV.canS (TV.int k n) = TV.int k n := rfl
theorem zci9 (s : ByteArray) : TV.canS (TV.str s) = TV.str s := rfl
theorem zcom : TV.canS TV.nilP = TV.nilP := rfl
theorem zci3 (id off : Nat) : TV.canS (TV.ptr id off) = TV.ptr id off := rfl
theorem zcon (cs : List TV) (off : Nat) : TV.canS (TV.rptr cs off) = TV.rptr cs off := rfl
theorem zci8 : TV.canS TV.slz = .sl [] := rfl
theorem zbuo (l : List TV) : TV.canS (TV.sl l) = TV.sl l := rfl
theorem zci4 (k : Nat) (l : List TV) : TV.canS (TV.sla k l) = .sl l := rfl
theorem zci5 (k : Nat) (t : TypeId) : TV.canS (TV.slb k t) = .sl [] := rfl
theorem zci7 (t : TypeId) (l : List TV) : TV.canS (TV.slo t l) = TV.slo t l := rfl
theorem zci6 (id off n sz : Nat) : TV.canS (TV.slm id off n sz) = TV.slm id off n sz := rfl
theorem zcol : TV.canS TV.nilM = TV.nilM := rfl
theorem zcoj : TV.canS TV.nilF = TV.nilF := rfl
theorem zcoi (f : FuncId) (a b : List TV) : TV.canS (TV.func f a b) = TV.func f a b := rfl
theorem zcok : TV.canS TV.nilI = TV.nilI := rfl
theorem zci1 (cs : List TV) : TV.canS (TV.agg cs) = TV.agg cs := rfl
theorem zcja (cs : List TV) : TV.canS (TV.tup cs) = TV.tup cs := rfl
theorem zc5b : TV.canA TV.undef = TV.undef := rfl
theorem zcni (b : Bool) : TV.canA (TV.bool b) = TV.bool b := rfl
theorem zcjr (k : IntKind) (n : Int) : TV.canA (TV.int k n) = TV.int k n := rfl
theorem zciz (s : ByteArray) : TV.canA (TV.str s) = TV.str s := rfl
theorem zcnn : TV.canA TV.nilP = TV.nilP := rfl
theorem zcjs (id off : Nat) : TV.canA (TV.ptr id off) = TV.ptr id off := rfl
theorem zcog (cs : List TV) (off : Nat) : TV.canA (TV.rptr cs off) = TV.rptr cs off := rfl
theorem zciy : TV.canA TV.slz = .sl [] := rfl
theorem zbup (l : List TV) : TV.canA (TV.sl l) = TV.sl l := rfl
theorem zcjt (k : Nat) (l : List TV) : TV.canA (TV.sla k l) = .sl l := rfl
theorem zcju (k : Nat) (t : TypeId) : TV.canA (TV.slb k t) = .sl [] := rfl
theorem zcix (t : TypeId) (l : List TV) : TV.canA (TV.slo t l) = TV.slo t l := rfl
theorem zciw (id off n sz : Nat) : TV.canA (TV.slm id off n sz) = TV.slm id off n sz := rfl
theorem zcnm : TV.canA TV.nilM = TV.nilM := rfl
theorem zcnk : TV.canA TV.nilF = TV.nilF := rfl
theorem zcnj (f : FuncId) (a b : List TV) : TV.canA (TV.func f a b) = TV.func f a b := rfl
theorem zcnl : TV.canA TV.nilI = TV.nilI := rfl
theorem zcjq (cs : List TV) : TV.canA (TV.agg cs) = .agg (cs.map TV.canS) := rfl
theorem zci0 (cs : List TV) : TV.canA (TV.tup cs) = TV.tup cs := rfl
theorem zc5d : TV.canT TV.undef = TV.undef := rfl
theorem zcoo (b : Bool) : TV.canT (TV.bool b) = TV.bool b := rfl
theorem zcjc (k : IntKind) (n : Int) : TV.canT (TV.int k n) = TV.int k n := rfl
theorem zcjj (s : ByteArray) : TV.canT (TV.str s) = TV.str s := rfl
theorem zcnz : TV.canT TV.nilP = TV.nilP := rfl
theorem zcjd (id off : Nat) : TV.canT (TV.ptr id off) = TV.ptr id off := rfl
theorem zcn0 (cs : List TV) (off : Nat) : TV.canT (TV.rptr cs off) = TV.rptr cs off := rfl
theorem zcji : TV.canT TV.slz = .sl [] := rfl
theorem zbun (l : List TV) : TV.canT (TV.sl l) = TV.sl l := rfl
theorem zcje (k : Nat) (l : List TV) : TV.canT (TV.sla k l) = .sl l := rfl
theorem zcjf (k : Nat) (t : TypeId) : TV.canT (TV.slb k t) = .sl [] := rfl
theorem zcjh (t : TypeId) (l : List TV) : TV.canT (TV.slo t l) = TV.slo t l := rfl
theorem zcjg (id off n sz : Nat) : TV.canT (TV.slm id off n sz) = TV.slm id off n sz := rfl
theorem zcny : TV.canT TV.nilM = TV.nilM := rfl
theorem zcnw : TV.canT TV.nilF = TV.nilF := rfl
theorem zcop (f : FuncId) (a b : List TV) : TV.canT (TV.func f a b) = TV.func f a b := rfl
theorem zcnx : TV.canT TV.nilI = TV.nilI := rfl
theorem zcjb (cs : List TV) : TV.canT (TV.agg cs) = .agg (cs.map TV.canS) := rfl
theorem zcjk (cs : List TV) : TV.canT (TV.tup cs) = .tup (cs.map TV.canA) := rfl
theorem zc55 : TV.part TV.undef = TV.undef := rfl
theorem zcpz (b : Bool) : TV.part (TV.bool b) = TV.bool b := rfl
theorem zck6 (k : IntKind) (n : Int) : TV.part (TV.int k n) = TV.int k n := rfl
theorem zcmc (s : ByteArray) : TV.part (TV.str s) = TV.str s := rfl
theorem zcp5 : TV.part TV.nilP = TV.nilP := rfl
theorem zck7 (id off : Nat) : TV.part (TV.ptr id off) = TV.ptr id off := rfl
theorem zco8 (cs : List TV) (off : Nat) : TV.part (TV.rptr cs off) = TV.rptr cs off := rfl
theorem zcmb : TV.part TV.slz = TV.slz := rfl
theorem zbr2 (l : List TV) : TV.part (TV.sl l) = TV.sl l := rfl
theorem zck8 (k : Nat) (l : List TV) : TV.part (TV.sla k l) = .sl l := rfl
theorem zcl8 (k : Nat) (t : TypeId) : TV.part (TV.slb k t) = .sl [] := rfl
theorem zcma (t : TypeId) (l : List TV) : TV.part (TV.slo t l) = TV.slo t l := rfl
theorem zcl9 (id off n sz : Nat) : TV.part (TV.slm id off n sz) = TV.slm id off n sz := rfl
theorem zcp4 : TV.part TV.nilM = TV.nilM := rfl
theorem zcp2 : TV.part TV.nilF = TV.nilF := rfl
theorem zcp1 (f : FuncId) (a b : List TV) : TV.part (TV.func f a b) = TV.func f a b := rfl
theorem zcp3 : TV.part TV.nilI = TV.nilI := rfl
theorem zck5 (cs : List TV) : TV.part (TV.agg cs) = TV.agg cs := rfl
theorem zcmd (cs : List TV) : TV.part (TV.tup cs) = TV.tup cs := rfl
theorem zcps : TV.put TV.undef = TV.undef := rfl
theorem zclr (b : Bool) : TV.put (TV.bool b) = TV.bool b := rfl
theorem zbrv (k : IntKind) (n : Int) : TV.put (TV.int k n) = TV.int k n := rfl
theorem zbro (s : ByteArray) : TV.put (TV.str s) = TV.str s := rfl
theorem zclw : TV.put TV.nilP = TV.nilP := rfl
theorem zbru (id off : Nat) : TV.put (TV.ptr id off) = TV.ptr id off := rfl
theorem zclx (cs : List TV) (off : Nat) : TV.put (TV.rptr cs off) = TV.rptr cs off := rfl
theorem zbrp : TV.put TV.slz = TV.slz := rfl
theorem zb0f (l : List TV) : TV.put (TV.sl l) = TV.sl l := rfl
theorem zbrt (k : Nat) (l : List TV) : TV.put (TV.sla k l) = .sl l := rfl
theorem zbrs (k : Nat) (t : TypeId) : TV.put (TV.slb k t) = .sl [] := rfl
theorem zbrq (t : TypeId) (l : List TV) : TV.put (TV.slo t l) = TV.slo t l := rfl
theorem zbrr (id off n sz : Nat) : TV.put (TV.slm id off n sz) = TV.slm id off n sz := rfl
theorem zclv : TV.put TV.nilM = TV.nilM := rfl
theorem zclt : TV.put TV.nilF = TV.nilF := rfl
theorem zcls (f : FuncId) (a b : List TV) : TV.put (TV.func f a b) = TV.func f a b := rfl
theorem zclu : TV.put TV.nilI = TV.nilI := rfl
theorem zbrw (cs : List TV) : TV.put (TV.agg cs) = TV.agg cs := rfl
theorem zbrn (cs : List TV) : TV.put (TV.tup cs) = TV.tup cs := rfl
theorem zclz : TV.rd TV.undef = TV.undef := rfl
theorem zbrj (b : Bool) : TV.rd (TV.bool b) = TV.bool b := rfl
theorem zb0c (k : IntKind) (n : Int) : TV.rd (TV.int k n) = TV.int k n := rfl
theorem zbz5 (s : ByteArray) : TV.rd (TV.str s) = TV.str s := rfl
theorem zbrd : TV.rd TV.nilP = TV.nilP := rfl
theorem zb0b (id off : Nat) : TV.rd (TV.ptr id off) = TV.ptr id off := rfl
theorem zbrc (cs : List TV) (off : Nat) : TV.rd (TV.rptr cs off) = TV.rptr cs off := rfl
theorem zbz6 : TV.rd TV.slz = TV.slz := rfl
theorem zb8e (l : List TV) : TV.rd (TV.sl l) = TV.sl l := rfl
theorem zb0a (k : Nat) (l : List TV) : TV.rd (TV.sla k l) = TV.sla k l := rfl
theorem zbz9 (k : Nat) (t : TypeId) : TV.rd (TV.slb k t) = TV.slb k t := rfl
theorem zbz7 (t : TypeId) (l : List TV) : TV.rd (TV.slo t l) = .sl l := rfl
theorem zbz8 (id off n sz : Nat) : TV.rd (TV.slm id off n sz) = TV.slm id off n sz := rfl
theorem zbre : TV.rd TV.nilM = TV.nilM := rfl
theorem zbrg : TV.rd TV.nilF = TV.nilF := rfl
theorem zbri (f : FuncId) (a b : List TV) : TV.rd (TV.func f a b) = TV.func f a b := rfl
theorem zbrf : TV.rd TV.nilI = TV.nilI := rfl
theorem zb0d (cs : List TV) : TV.rd (TV.agg cs) = TV.agg cs := rfl
theorem zbz4 (cs : List TV) : TV.rd (TV.tup cs) = TV.tup cs := rfl
theorem zckg : TV.list TV.slz = some [] := rfl
theorem zbtc (l : List TV) : TV.list (TV.sl l) = some l := rfl
theorem zckf (k : Nat) (l : List TV) : TV.list (TV.sla k l) = some l := rfl
theorem zc72 : TV.pureS TV.undef = false := rfl
theorem zc56 (b : Bool) : TV.pureS (TV.bool b) = true := rfl
theorem zcpd (k : IntKind) (n : Int) : TV.pureS (TV.int k n) = true := rfl
theorem zcpk (s : ByteArray) : TV.pureS (TV.str s) = true := rfl
theorem zc6a : TV.pureS TV.nilP = true := rfl
theorem zcpe (id off : Nat) : TV.pureS (TV.ptr id off) = false := rfl
theorem zc6b (cs : List TV) (off : Nat) : TV.pureS (TV.rptr cs off) = false := rfl
theorem zcpj : TV.pureS TV.slz = false := rfl
theorem zcme (l : List TV) : TV.pureS (TV.sl l) = true := rfl
theorem zcpf (k : Nat) (l : List TV) : TV.pureS (TV.sla k l) = false := rfl
theorem zcpg (k : Nat) (t : TypeId) : TV.pureS (TV.slb k t) = false := rfl
theorem zcpi (t : TypeId) (l : List TV) : TV.pureS (TV.slo t l) = false := rfl
theorem zcph (id off n sz : Nat) : TV.pureS (TV.slm id off n sz) = false := rfl
theorem zc59 : TV.pureS TV.nilM = true := rfl
theorem zc57 : TV.pureS TV.nilF = true := rfl
theorem zc58 : TV.pureS TV.nilI = true := rfl
theorem zcpc (cs : List TV) : TV.pureS (TV.agg cs) = false := rfl
theorem zcpl (cs : List TV) : TV.pureS (TV.tup cs) = false := rfl
theorem zc71 (f : FuncId) : TV.pureS (.func f [] []) = true := rfl
theorem zc6c : TV.pure TV.undef = false := rfl
theorem zcpm (b : Bool) : TV.pure (TV.bool b) = true := rfl
theorem zcli (k : IntKind) (n : Int) : TV.pure (TV.int k n) = true := rfl
theorem zclp (s : ByteArray) : TV.pure (TV.str s) = true := rfl
theorem zcpq : TV.pure TV.nilP = true := rfl
theorem zclj (id off : Nat) : TV.pure (TV.ptr id off) = false := rfl
theorem zcpr (cs : List TV) (off : Nat) : TV.pure (TV.rptr cs off) = false := rfl
theorem zclo : TV.pure TV.slz = false := rfl
theorem zbrx (l : List TV) : TV.pure (TV.sl l) = true := rfl
theorem zclk (k : Nat) (l : List TV) : TV.pure (TV.sla k l) = false := rfl
theorem zcll (k : Nat) (t : TypeId) : TV.pure (TV.slb k t) = false := rfl
theorem zcln (t : TypeId) (l : List TV) : TV.pure (TV.slo t l) = false := rfl
theorem zclm (id off n sz : Nat) : TV.pure (TV.slm id off n sz) = false := rfl
theorem zcpp : TV.pure TV.nilM = true := rfl
theorem zcpn : TV.pure TV.nilF = true := rfl
theorem zcpo : TV.pure TV.nilI = true := rfl
theorem zcmf (cs : List TV) : TV.pure (TV.agg cs) = cs.all TV.pureS := rfl
theorem zclq (cs : List TV) : TV.pure (TV.tup cs) = false := rfl
theorem zc8s (n : Nat) : TV.under n TV.undef = true := by simp [TV.under]
theorem zclb (n m : Nat) : TV.lt n m TV.undef = true := by simp [TV.lt]
theorem zc61 (n : Nat) (b : Bool) : TV.under n (TV.bool b) = true := by simp [TV.under]
theorem zbs3 (n m : Nat) (b : Bool) : TV.lt n m (TV.bool b) = true := by simp [TV.lt]
theorem zc4p (n : Nat) (k : IntKind) (q : Int) : TV.under n (TV.int k q) = true := by simp [TV.under]
theorem zb0w (n m : Nat) (k : IntKind) (q : Int) : TV.lt n m (TV.int k q) = true := by simp [TV.lt]
theorem zc4w (n : Nat) (s : ByteArray) : TV.under n (TV.str s) = true := by simp [TV.under]
theorem zb0p (n m : Nat) (s : ByteArray) : TV.lt n m (TV.str s) = true := by simp [TV.lt]
theorem zc66 (n : Nat) : TV.under n TV.nilP = true := by simp [TV.under]
theorem zbsw (n m : Nat) : TV.lt n m TV.nilP = true := by simp [TV.lt]
theorem zc4q (n : Nat) (id off : Nat) : TV.under n (TV.ptr id off) = decide (id < n) := by simp [TV.under]
theorem zb0v (n m : Nat) (id off : Nat) : TV.lt n m (TV.ptr id off) = decide (id < n) := by simp [TV.lt]
theorem zc67 (n : Nat) (cs : List TV) (off : Nat) : TV.under n (TV.rptr cs off) = true := by simp [TV.under]
theorem zbsv (n m : Nat) (cs : List TV) (off : Nat) : TV.lt n m (TV.rptr cs off) = true := by simp [TV.lt]
theorem zc4v (n : Nat) : TV.under n TV.slz = true := by simp [TV.under]
theorem zb0q (n m : Nat) : TV.lt n m TV.slz = true := by simp [TV.lt]
theorem zcmy (n : Nat) (l : List TV) : TV.under n (TV.sl l) = true := by simp [TV.under]
theorem zb8p (n m : Nat) (l : List TV) : TV.lt n m (TV.sl l) = true := by simp [TV.lt]
theorem zc4r (n : Nat) (k : Nat) (l : List TV) : TV.under n (TV.sla k l) = false := by simp [TV.under]
theorem zb0u (n m : Nat) (k : Nat) (l : List TV) : TV.lt n m (TV.sla k l) = decide (k < m) := by simp [TV.lt]
theorem zc4s (n : Nat) (k : Nat) (t : TypeId) : TV.under n (TV.slb k t) = false := by simp [TV.under]
theorem zb0t (n m : Nat) (k : Nat) (t : TypeId) : TV.lt n m (TV.slb k t) = decide (k < m) := by simp [TV.lt]
theorem zc4u (n : Nat) (t : TypeId) (l : List TV) : TV.under n (TV.slo t l) = true := by simp [TV.under]
theorem zb0r (n m : Nat) (t : TypeId) (l : List TV) : TV.lt n m (TV.slo t l) = true := by simp [TV.lt]
theorem zc4t (n : Nat) (id off q sz : Nat) : TV.under n (TV.slm id off q sz) = decide (id < n) := by simp [TV.under]
theorem zb0s (n m : Nat) (id off q sz : Nat) : TV.lt n m (TV.slm id off q sz) = decide (id < n) := by simp [TV.lt]
theorem zc65 (n : Nat) : TV.under n TV.nilM = true := by simp [TV.under]
theorem zbsx (n m : Nat) : TV.lt n m TV.nilM = true := by simp [TV.lt]
theorem zc63 (n : Nat) : TV.under n TV.nilF = true := by simp [TV.under]
theorem zbsz (n m : Nat) : TV.lt n m TV.nilF = true := by simp [TV.lt]
theorem zc62 (n : Nat) (f : FuncId) (a b : List TV) : TV.under n (TV.func f a b) = (iy n a && iy n b) := by simp [TV.under]
theorem zbs2 (n m : Nat) (f : FuncId) (a b : List TV) : TV.lt n m (TV.func f a b) = (ltL n m a && ltL n m b) := by simp [TV.lt]
theorem zc64 (n : Nat) : TV.under n TV.nilI = true := by simp [TV.under]
theorem zbsy (n m : Nat) : TV.lt n m TV.nilI = true := by simp [TV.lt]
theorem zc4o (n : Nat) (cs : List TV) : TV.under n (TV.agg cs) = iy n cs := by simp [TV.under]
theorem zb0x (n m : Nat) (cs : List TV) : TV.lt n m (TV.agg cs) = ltL n m cs := by simp [TV.lt]
theorem zc43 (n : Nat) (cs : List TV) : TV.under n (TV.tup cs) = iy n cs := by simp [TV.under]
theorem zb0o (n m : Nat) (cs : List TV) : TV.lt n m (TV.tup cs) = ltL n m cs := by simp [TV.lt]
theorem zc60 (n : Nat) : iy n [] = true := by simp [iy]
theorem zc8r (n : Nat) (v : TV) (l : List TV) : iy n (v :: l) = (v.under n && iy n l) := by simp [iy]
theorem zbs4 (n m : Nat) : ltL n m [] = true := by simp [ltL]
theorem zcla (n m : Nat) (v : TV) (l : List TV) : ltL n m (v :: l) = (v.lt n m && ltL n m l) := by simp [ltL]
theorem jo {Γ : FuncId → Option TG} {lv : List Nat} {a : TC} {Q : TEx → au} {fr : TF} {tk : TK} {τ : TH} (h : ∀ LQ : TEx → au,(∀ fr' tk' τ',LQ .normal fr' tk' τ' = zb08 lv tk τ fr' tk' τ' (tW Γ (.loop lv a) Q)) → (LQ .ret = Q .ret) → (∀ id,LQ (.exit id) = Q (.exit id)) → tW Γ a LQ (sel lv fr) tk τ) : tW Γ (.loop lv a) Q fr tk τ := by
 rw [zb2w]
 exact h _ (fun fr' tk' τ' => zcci Γ fr' tk tk' τ τ' a lv Q) rfl fun _ => rfl
def zbnu : List (Nat × TG) → FuncId → Option TG
 | [],_ => none
 | (k,g) :: r,f => if f = k then some g else zbnu r f
def zb59 (P : Program) (l : List (Nat × TG)) : Prop := ∀ p ∈ l,match p.2 with
 | .code fn => ∃ H,u7 P H p.1 = some (fn.n,fn.c.erase,fn.rs)
 | .prim g => ∀ args τ r τ',g args τ = some (r,τ') → zb1u P p.1 args τ r τ'
theorem zb3s {P : Program} : zb59 P [] := fun p hp => by simp at hp
theorem a9 {P : Program} {H : List (Nat × DH)} {f n : Nat} {c : TC} {rs : List R} {fz : Bool} (h : u7 P H f = some (n,c.erase,rs)) {l : List (Nat × TG)} (k : zb59 P l) : zb59 P ((f,.code ⟨n,c,rs,fz⟩) :: l) := fun p hp => by
 rcases List.mem_cons.1 hp with rfl | hp
 · exact ⟨H,h⟩
 · exact k p hp
theorem zcg2 {P : Program} {f : Nat} {g : List TV → TH → Option (TV × TH)} (h : ∀ args τ r τ',g args τ = some (r,τ') → zb1u P f args τ r τ') {l : List (Nat × TG)} (k : zb59 P l) : zb59 P ((f,.prim g) :: l) := fun p hp => by
 rcases List.mem_cons.1 hp with rfl | hp
 · exact h
 · exact k p hp
theorem zco6 : ∀ {l : List (Nat × TG)} {f : Nat} {g : TG},zbnu l f = some g → (f,g) ∈ l
 | [],_,_,h => by cases h
 | (k,g) :: r,f,g',h => by
  simp only [zbnu] at h
  split at h
  · rename_i e; injection h with h; subst e h; simp
  · exact List.mem_cons_of_mem _ (zco6 h)
theorem zbxz {P : Program} {l : List (Nat × TG)} (h : zb59 P l) : GOK P (zbnu l) := fun f => by
 cases hq : zbnu l f with
 | none => trivial
 | some g =>
  have := h _ (zco6 hq)
  cases g with
  | code fn => exact this
  | prim g => exact this
section
variable (τ : TH) (b c : Ob) (id k n : Nat)
def zb39 (o : Option Ob) (off : Nat) : Option TV := match o with | some b => (b.cs[off]?).map TV.rd | none => none
def zchq (o : Option Ob) (off n : Nat) : Option (List TV) := match o with | some b => if off + n ≤ b.cs.length then some (((b.cs.drop off).take n).map TV.rd) else none | none => none
theorem zcmo (off : Nat) : zbww τ id off = zb39 (τ.at id) off := by unfold zbww zb39; cases τ.at id <;> rfl
theorem zbpe (off : Nat) : zbl3 τ id off n = zchq (τ.at id) off n := by unfold zbl3 zchq; cases τ.at id <;> rfl
theorem zc5e (t : TypeId) (cs : List TV) (off : Nat) : zb39 (some ⟨t,cs⟩) off = (cs[off]?).map TV.rd := rfl
theorem zc4y (t : TypeId) (cs : List TV) (off : Nat) : zchq (some ⟨t,cs⟩) off n = if off + n ≤ cs.length then some (((cs.drop off).take n).map TV.rd) else none := rfl
theorem zcnf : (τ.push b).at τ.next = some b := zb6q
theorem zc5a (h : id = τ.next) : (τ.push b).at id = some b := by subst h; exact zb6q
theorem zcng (h : id < τ.next) : (τ.push b).at id = τ.at id := zb5c h
theorem aj : (τ.push b).next = τ.next + 1 := io
theorem af : (τ.put id b).next = τ.next := bb
theorem zbsq : (τ.locked n).next = τ.next := rfl
theorem zbls : (τ.locked n).at id = τ.at id := rfl
theorem ap : (τ.push b).lock = τ.lock := rfl
theorem ah : (τ.put id b).lock = τ.lock := rfl
theorem zbs9 : (τ.cut n).lock = τ.lock := rfl
theorem zbs8 : (τ.locked n).lock = n := rfl
theorem zb9c (h : id < τ.next) : (τ.put id b).at id = some b := zb5q h
theorem zcjl (h : (k = id) = False) : (τ.put id b).at k = τ.at k := zb5b (by simpa using h)
theorem zbol : (τ.put id b).put id c = τ.put id c := by simp [TH.put]
theorem zcpa (h : id = τ.next) : (τ.push b).put id c = τ.push c := by subst h; simp [TH.put,TH.push,TH.next,List.set_append_right]
theorem zcpb (h : id < τ.next) : (τ.push b).put id c = (τ.put id c).push b := by simp only [TH.put,TH.push,TH.next] at *; rw [List.set_append_left _ _ h]
theorem zckl (h : n ≤ τ.next) : (τ.push b).cut n = τ.cut n := by simp only [TH.cut,TH.push,TH.next] at *; rw [List.take_append_of_le_length h]
theorem ba (h : τ.next ≤ n) : τ.cut n = τ := zcbd h
theorem zc5o : (τ.locked k).cut n = (τ.cut n).locked k := rfl
theorem zc73 : (τ.locked k).push b = (τ.push b).locked k := rfl
theorem zc6d : (τ.locked k).put id b = (τ.put id b).locked k := rfl
theorem zcsi : (τ.locked k).locked n = τ.locked n := rfl
theorem zc7j : τ.locked τ.lock = τ := rfl
end
section
variable (k : IntKind) (x y : Int) (s u : ByteArray)
theorem zbzq : zash .add (.int k x) (.int k y) = some (.int k (k.wrap (x + y))) := by simp [zash,za0b,zblv,ofS]
theorem zbzc : zash .sub (.int k x) (.int k y) = some (.int k (k.wrap (x - y))) := by simp [zash,za0b,zblv,ofS]
theorem zbzi : zash .mul (.int k x) (.int k y) = some (.int k (k.wrap (x * y))) := by simp [zash,za0b,zblv,ofS]
theorem zbzp : zash .and (.int k x) (.int k y) = some (.int k (k.wrap (BitVec.ofInt k.bits x &&& BitVec.ofInt k.bits y).toNat)) := by simp [zash,za0b,zblv,ofS]
theorem zb7w : zash .or (.int k x) (.int k y) = some (.int k (k.wrap (BitVec.ofInt k.bits x ||| BitVec.ofInt k.bits y).toNat)) := by simp [zash,za0b,zblv,ofS]
theorem zbzb : zash .xor (.int k x) (.int k y) = some (.int k (k.wrap (BitVec.ofInt k.bits x ^^^ BitVec.ofInt k.bits y).toNat)) := by simp [zash,za0b,zblv,ofS]
theorem zbzj : zash .lss (.int k x) (.int k y) = some (.bool (decide (x < y))) := by simp [zash,za0b,zblv,ofS]
theorem zbzk : zash .leq (.int k x) (.int k y) = some (.bool (decide (x ≤ y))) := by simp [zash,za0b,zblv,ofS]
theorem zbzl : zash .gtr (.int k x) (.int k y) = some (.bool (decide (y < x))) := by simp [zash,za0b,zblv,ofS]
theorem zbzm : zash .geq (.int k x) (.int k y) = some (.bool (decide (y ≤ x))) := by simp [zash,za0b,zblv,ofS]
theorem zbzn : zash .eql (.int k x) (.int k y) = some (.bool (decide (x = y))) := by simp [zash,za0b,zblv,ofS]; rfl
theorem zbzh : zash .neq (.int k x) (.int k y) = some (.bool (decide (¬ x = y))) := by simp [zash,za0b,zblv,ofS]; rfl
theorem zbzg : zash .quo (.int k x) (.int k y) = if y = 0 then none else some (.int k (k.wrap (x.tdiv y))) := by simp [zash,za0b,zblv]; split <;> simp [ofS]
theorem zbzf : zash .rem (.int k x) (.int k y) = if y = 0 then none else some (.int k (x.tmod y)) := by simp [zash,za0b,zblv]; split <;> simp [ofS]
theorem zbze (j : IntKind) : zash .shl (.int k x) (.int j y) = if y < 0 then none else some (.int k (k.wrap (x * 2 ^ (Nat.min y.toNat k.bits)))) := by simp [zash,za0b,zb2e]; split <;> simp [ofS]
theorem zbzd (j : IntKind) : zash .shr (.int k x) (.int j y) = if y < 0 then none else some (.int k (x.fdiv (2 ^ (Nat.min y.toNat k.bits)))) := by simp [zash,za0b,zb2e]; split <;> simp [ofS]
theorem zbzo : zash .add (.str s) (.str u) = if 9223372036854775807 < ((s.size + u.size : Nat) : Int) then none else some (.str (s ++ u)) := by
 have e : IntKind.i64.max = 9223372036854775807 := by decide
 simp only [zash,zbqp,e]
 split
 · rfl
 · rfl
theorem zc8e {s u : ByteArray} : s.toList = u.toList ↔ s = u := by
 constructor
 · intro h
   rw [ByteArray.toList_eq,ByteArray.toList_eq] at h
   cases s; cases u; simp_all
 · rintro rfl; rfl
theorem zbpy : zash .eql (.str s) (.str u) = some (.bool (decide (s = u))) := by simp only [zash,zbqp,Option.map_some,ofS]; congr 2; by_cases h : s = u <;> simp [h,zc8e]
theorem zbpx : zash .neq (.str s) (.str u) = some (.bool (decide (¬ s = u))) := by simp only [zash,zbqp,Option.map_some,ofS]; congr 2; by_cases h : s = u <;> simp [h,zc8e]
theorem zby2 (b : Bool) : tun .not (.bool b) = some (.bool !b) := rfl
def zchu (k : IntKind) (x : Int) : Int := k.wrap (BitVec.ofInt k.bits (if k.signed then -1 else k.max) ^^^ BitVec.ofInt k.bits x).toNat
theorem zby1 : tun .xor (.int k x) = some (.int k (zchu k x)) := rfl
theorem zby3 : tun .neg (.int k x) = some (.int k (k.wrap (0 - x))) := rfl
end
theorem zc7h (c : Prop) [Decidable c] (v : TV) (d : Option Nat) (K : au) (fr : TF) (tk : TK) (τ : TH) : pK (if c then none else some v) d K fr tk τ = (¬ c ∧ K (fv fr d v) tk τ) := by unfold pK; by_cases h : c <;> simp [h]
theorem zbs0 {g n k : Nat} (h : g < n) : (g < n + k) = True := by simp; omega
theorem zbti {g n k : Nat} (h : g ≤ n) : (g ≤ n + k) = True := by simp; omega
theorem zbsu (n k : Nat) : (n < n + k) = (0 < k) := by simp
theorem zbs1 (n j k : Nat) : (n + j < n + k) = (j < k) := by simp
theorem zbth (n k : Nat) : (n ≤ n + k) = True := by simp
theorem zbtj (n j k : Nat) : (n + j ≤ n + k) = (j ≤ k) := by simp
theorem zbuh (n j k : Nat) : (n + j = n + k) = (j = k) := by simp
theorem zc7z (n k : Nat) : (n = n + k) = (k = 0) := by simp
theorem zcqc (n k : Nat) : (n + k = n) = (k = 0) := by simp
theorem zcqg (n : Nat) : (n < n) = False := by simp
theorem zbve (n j k : Nat) : n + j + k = n + (j + k) := Nat.add_assoc n j k
theorem zcm5 (i o j p : Nat) : TV.same (.ptr i o) (.ptr j p) = (i == j && o == p) := rfl
theorem zcm4 (k j : IntKind) (n m : Int) : TV.same (.int k n) (.int j m) = (decide (k = j) && decide (n = m)) := rfl
theorem zc42 (a b : Bool) : TV.same (.bool a) (.bool b) = (a == b) := rfl
theorem zcm6 (a b : ByteArray) : TV.same (.str a) (.str b) = decide (a = b) := rfl
theorem zc4c (f g : FuncId) (a b c d : List TV) : TV.same (.func f a b) (.func g c d) = (decide (f = g) && (zbwj a c && zbwj b d)) := rfl
theorem zc41 : zbwj [] [] = true := rfl
theorem zc6h (v w : TV) (r s : List TV) : zbwj (v :: r) (w :: s) = (v.same w && zbwj r s) := rfl
theorem zc4x (fr : TF) (τ : TH) (d : Nat) (i : I) (g : Option (Nat × Bool)) : zcbh ⟨some d,i,g⟩ fr τ = zcbx (zb7f i fr τ) (lkp fr d) := rfl
theorem zcpu (fr : TF) (τ : TH) (x : Operand) : zb7f (.load1 x) fr τ = rdO (tO fr x) τ := rfl
theorem zbrk (τ : TH) (id off : Nat) : rdO (.ptr id off) τ = rdB (τ.at id) off := rfl
theorem zcly (t : TypeId) (cs : List TV) (off : Nat) : rdB (some ⟨t,cs⟩) off = (cs[off]?).map TV.rd := rfl
theorem zc40 (v w : TV) : zcbx (some v) w = v.same w := rfl
theorem zckn : decide True = true := rfl
theorem zckm : decide False = false := rfl
theorem TT0 : type_of% (ai (ai (ai (ai @zb1c @zb1d) (ai @zb9k @zb9l)) (ai (ai @zbvi @zb9j) (ai @zb1e @zbvk))) (ai (ai (ai @zbvj @zbuu) (ai @zbpj @zbpi)) (ai (ai @zbpk @zcjo) (ai @zcjn @zcnh)))) := (ai (ai (ai (ai @zb1c @zb1d) (ai @zb9k @zb9l)) (ai (ai @zbvi @zb9j) (ai @zb1e @zbvk))) (ai (ai (ai @zbvj @zbuu) (ai @zbpj @zbpi)) (ai (ai @zbpk @zcjo) (ai @zcjn @zcnh))))
theorem TT1 : type_of% (ai (ai (ai (ai @zcjp @zcci) (ai @zbs5 @zbs6)) (ai (ai @zbuz @zbz1) (ai @zbz2 @zbqy))) (ai (ai (ai @zbqz @zcjz) (ai @zcm2 @zby5)) (ai (ai @zby6 @zby4) (ai @zcrt @zcuv)))) := (ai (ai (ai (ai @zcjp @zcci) (ai @zbs5 @zbs6)) (ai (ai @zbuz @zbz1) (ai @zbz2 @zbqy))) (ai (ai (ai @zbqz @zcjz) (ai @zcm2 @zby5)) (ai (ai @zby6 @zby4) (ai @zcrt @zcuv))))
theorem TT2 : type_of% (ai (ai (ai (ai @zc5n @zc8p) (ai @zc6n @zc6y)) (ai (ai @zbrm @zbrl) (ai @zbzs @zbp4))) (ai (ai (ai @zbp3 @zbp6) (ai @zcmk @zcml)) (ai (ai @zb8y @zb81) (ai @zb8z @zb80)))) := (ai (ai (ai (ai @zc5n @zc8p) (ai @zc6n @zc6y)) (ai (ai @zbrm @zbrl) (ai @zbzs @zbp4))) (ai (ai (ai @zbp3 @zbp6) (ai @zcmk @zcml)) (ai (ai @zb8y @zb81) (ai @zb8z @zb80))))
theorem TT3 : type_of% (ai (ai (ai (ai @zb01 @zb1s) (ai @zbv3 @zcmr)) (ai (ai @zc4i @zc44) (ai @zbpr @zcmw))) (ai (ai (ai @zc4j @zbpq) (ai @zcms @zbpm)) (ai (ai @zcmv @zby9) (ai @zbps @zbpp)))) := (ai (ai (ai (ai @zb01 @zb1s) (ai @zbv3 @zcmr)) (ai (ai @zc4i @zc44) (ai @zbpr @zcmw))) (ai (ai (ai @zc4j @zbpq) (ai @zcms @zbpm)) (ai (ai @zcmv @zby9) (ai @zbps @zbpp))))
theorem TT4 : type_of% (ai (ai (ai (ai @zcmt @zbpn) (ai @zcmu @zbpo)) (ai (ai @zbv2 @zbv1) (ai @zcik @zbuj))) (ai (ai (ai @zbr3 @zb0i) (ai @zck4 @zccl)) (ai (ai @zb9p @zb1m) (ai @zb1n @zclh)))) := (ai (ai (ai (ai @zcmt @zbpn) (ai @zcmu @zbpo)) (ai (ai @zbv2 @zbv1) (ai @zcik @zbuj))) (ai (ai (ai @zbr3 @zb0i) (ai @zck4 @zccl)) (ai (ai @zb9p @zb1m) (ai @zb1n @zclh))))
theorem TT5 : type_of% (ai (ai (ai (ai @zb1l @zbr0) (ai @zbvy @zbtl)) (ai (ai @zcj9 @zbvw) (ai @zbtk @zcka))) (ai (ai (ai @zcio @zclg) (ai @zco5 @zco4)) (ai (ai @zb9v @zb9t) (ai @zb05 @zbvz)))) := (ai (ai (ai (ai @zb1l @zbr0) (ai @zbvy @zbtl)) (ai (ai @zcj9 @zbvw) (ai @zbtk @zcka))) (ai (ai (ai @zcio @zclg) (ai @zco5 @zco4)) (ai (ai @zb9v @zb9t) (ai @zb05 @zbvz))))
theorem TT6 : type_of% (ai (ai (ai (ai @zc8c @zc6k) (ai @zc8d @zc6m)) (ai (ai @zc4k @zc6l) (ai @zc8b @zc8a))) (ai (ai (ai @zc79 @zc9t) (ai @zb1r @zbum)) (ai (ai @zbv0 @zckk) (ai @zc68 @zbte)))) := (ai (ai (ai (ai @zc8c @zc6k) (ai @zc8d @zc6m)) (ai (ai @zc4k @zc6l) (ai @zc8b @zc8a))) (ai (ai (ai @zc79 @zc9t) (ai @zb1r @zbum)) (ai (ai @zbv0 @zckk) (ai @zc68 @zbte))))
theorem TT7 : type_of% (ai (ai (ai (ai @zcke @zcl2) (ai @zcpv @zbq7)) (ai (ai @zcpw @zcl3) (ai @zbq8 @zbq1))) (ai (ai (ai @zcmz @zcm0) (ai @zbq2 @zbz3)) (ai (ai @zbq6 @zbq5) (ai @zbq3 @zbq4)))) := (ai (ai (ai (ai @zcke @zcl2) (ai @zcpv @zbq7)) (ai (ai @zcpw @zcl3) (ai @zbq8 @zbq1))) (ai (ai (ai @zcmz @zcm0) (ai @zbq2 @zbz3)) (ai (ai @zbq6 @zbq5) (ai @zbq3 @zbq4))))
theorem TT8 : type_of% (ai (ai (ai (ai @zcl7 @zcl5) (ai @zcl4 @zcl6)) (ai (ai @zbq9 @zbq0) (ai @zbuf @zcjx))) (ai (ai (ai @zcil @zbue) (ai @zcim @zbud)) (ai (ai @zc5u @zbtv) (ai @zcj6 @zcnr)))) := (ai (ai (ai (ai @zcl7 @zcl5) (ai @zcl4 @zcl6)) (ai (ai @zbq9 @zbq0) (ai @zbuf @zcjx))) (ai (ai (ai @zcil @zbue) (ai @zcim @zbud)) (ai (ai @zc5u @zbtv) (ai @zcj6 @zcnr))))
theorem TT9 : type_of% (ai (ai (ai (ai @zb0z @zbtu) (ai @zbtt @zc5v)) (ai (ai @zb8w @zc5w) (ai @zb77 @zcnv))) (ai (ai (ai @zbzx @zbqg) (ai @zbqf @zb7x)) (ai (ai @zb7z @zb7y) (ai @zb70 @zbss)))) := (ai (ai (ai (ai @zb0z @zbtu) (ai @zbtt @zc5v)) (ai (ai @zb8w @zc5w) (ai @zb77 @zcnv))) (ai (ai (ai @zbzx @zbqg) (ai @zbqf @zb7x)) (ai (ai @zb7z @zb7y) (ai @zb70 @zbss))))
theorem zc9r : type_of% (ai (ai (ai (ai @zb1p @zb0y) (ai @zb1q @zckc)) (ai (ai @zbtf @zckb) (ai @zckd @zb9q))) (ai (ai (ai @zb0l @zb9r) (ai @zb0m @zcin)) (ai (ai @zcnq @zb83) (ai @zbv4 @zc4h)))) := (ai (ai (ai (ai @zb1p @zb0y) (ai @zb1q @zckc)) (ai (ai @zbtf @zckb) (ai @zckd @zb9q))) (ai (ai (ai @zb0l @zb9r) (ai @zb0m @zcin)) (ai (ai @zcnq @zb83) (ai @zbv4 @zc4h))))
theorem zc9q : type_of% (ai (ai (ai (ai @zc6j @zcg3) (ai @zche @zbvu)) (ai (ai @zcm7 @zc45) (ai @zcmi @zcmh))) (ai (ai (ai @zc5t @zb8x) (ai @zc69 @zb00)) (ai (ai @zb9s @zb84) (ai @zb9u @zbvv)))) := (ai (ai (ai (ai @zc6j @zcg3) (ai @zche @zbvu)) (ai (ai @zcm7 @zc45) (ai @zcmi @zcmh))) (ai (ai (ai @zc5t @zb8x) (ai @zc69 @zb00)) (ai (ai @zb9s @zb84) (ai @zb9u @zbvv))))
theorem zc9p : type_of% (ai (ai (ai (ai @zbqc @zcmg) (ai @zbvx @zbph)) (ai (ai @zcmx @zcm9) (ai @zcm8 @zcip))) (ai (ai (ai @zbqq @zcm3) (ai @zcnp @zb9b)) (ai (ai @zb9a @zb89) (ai @zc6i @zc77)))) := (ai (ai (ai (ai @zbqc @zcmg) (ai @zbvx @zbph)) (ai (ai @zcmx @zcm9) (ai @zcm8 @zcip))) (ai (ai (ai @zbqq @zcm3) (ai @zcnp @zb9b)) (ai (ai @zb9a @zb89) (ai @zc6i @zc77))))
theorem zc9o : type_of% (ai (ai (ai (ai @zcns @zcnt) (ai @zcnu @zb8n)) (ai (ai @zb8m @zcij) (ai @zcna @zbu9))) (ai (ai (ai @zbva @zcir) (ai @zcnb @zbu0)) (ai (ai @zciv @zbu6) (ai @zbu8 @zcit)))) := (ai (ai (ai (ai @zcns @zcnt) (ai @zcnu @zb8n)) (ai (ai @zb8m @zcij) (ai @zcna @zbu9))) (ai (ai (ai @zbva @zcir) (ai @zcnb @zbu0)) (ai (ai @zciv @zbu6) (ai @zbu8 @zcit))))
theorem zc9n : type_of% (ai (ai (ai (ai @zbu7 @zcis) (ai @zcno @zb9d)) (ai (ai @zc5x @zc5y) (ai @zc5z @zb72))) (ai (ai (ai @zb71 @zb9n) (ai @zb1j @zbvs)) (ai (ai @zb1i @zbvo) (ai @zbvn @zbvp)))) := (ai (ai (ai (ai @zbu7 @zcis) (ai @zcno @zb9d)) (ai (ai @zc5x @zc5y) (ai @zc5z @zb72))) (ai (ai (ai @zb71 @zb9n) (ai @zb1j @zbvs)) (ai (ai @zb1i @zbvo) (ai @zbvn @zbvp))))
theorem zc9m : type_of% (ai (ai (ai (ai @zbvr @zbvq) (ai @zb1h @zb1k)) (ai (ai @zbsm @zckr) (ai @zbsl @zckv))) (ai (ai (ai @zckw @zcku) (ai @zcks @zckt)) (ai (ai @zbtb @zcki) (ai @zc4m @zc4l)))) := (ai (ai (ai (ai @zbvr @zbvq) (ai @zb1h @zb1k)) (ai (ai @zbsm @zckr) (ai @zbsl @zckv))) (ai (ai (ai @zckw @zcku) (ai @zcks @zckt)) (ai (ai @zbtb @zcki) (ai @zc4m @zc4l))))
theorem zc9l : type_of% (ai (ai (ai (ai @zbzy @zciu) (ai @zcne @zc7f)) (ai (ai @zc5f @zcn2) (ai @zcn9 @zc5k))) (ai (ai (ai @zcn3 @zc5l) (ai @zcn8 @zckj)) (ai (ai @zcn4 @zcn5) (ai @zcn7 @zcn6)))) := (ai (ai (ai (ai @zbzy @zciu) (ai @zcne @zc7f)) (ai (ai @zc5f @zcn2) (ai @zcn9 @zc5k))) (ai (ai (ai @zcn3 @zc5l) (ai @zcn8 @zckj)) (ai (ai @zcn4 @zcn5) (ai @zcn7 @zcn6))))
theorem zc9k : type_of% (ai (ai (ai (ai @zc5j @zc5h) (ai @zc5g @zc5i)) (ai (ai @zcn1 @zcoa) (ai @zcpy @zckx))) (ai (ai (ai @zbsd @zbr6) (ai @zck2 @zbsc)) (ai (ai @zck3 @zbr7) (ai @zb0j @zbsb)))) := (ai (ai (ai (ai @zc5j @zc5h) (ai @zc5g @zc5i)) (ai (ai @zcn1 @zcoa) (ai @zcpy @zckx))) (ai (ai (ai @zbsd @zbr6) (ai @zck2 @zbsc)) (ai (ai @zck3 @zbr7) (ai @zb0j @zbsb))))
theorem zc9j : type_of% (ai (ai (ai (ai @zbsa @zbr8) (ai @zbr9 @zck1)) (ai (ai @zckz @zcky) (ai @zck0 @zbse))) (ai (ai (ai @zbr5 @zc7i) (ai @zc6p @zcor)) (ai (ai @zcoy @zc6u) (ai @zcos @zc6v)))) := (ai (ai (ai (ai @zbsa @zbr8) (ai @zbr9 @zck1)) (ai (ai @zckz @zcky) (ai @zck0 @zbse))) (ai (ai (ai @zbr5 @zc7i) (ai @zc6p @zcor)) (ai (ai @zcoy @zc6u) (ai @zcos @zc6v))))
theorem zc9i : type_of% (ai (ai (ai (ai @zcox @zcj8) (ai @zcot @zcou)) (ai (ai @zcow @zcov) (ai @zc6t @zc6r))) (ai (ai (ai @zc6q @zc6s) (ai @zcoq @zcoz)) (ai (ai @zc5c @zcoh) (ai @zci2 @zci9)))) := (ai (ai (ai (ai @zcox @zcj8) (ai @zcot @zcou)) (ai (ai @zcow @zcov) (ai @zc6t @zc6r))) (ai (ai (ai @zc6q @zc6s) (ai @zcoq @zcoz)) (ai (ai @zc5c @zcoh) (ai @zci2 @zci9))))
theorem zc9h : type_of% (ai (ai (ai (ai @zcom @zci3) (ai @zcon @zci8)) (ai (ai @zbuo @zci4) (ai @zci5 @zci7))) (ai (ai (ai @zci6 @zcol) (ai @zcoj @zcoi)) (ai (ai @zcok @zci1) (ai @zcja @zc5b)))) := (ai (ai (ai (ai @zcom @zci3) (ai @zcon @zci8)) (ai (ai @zbuo @zci4) (ai @zci5 @zci7))) (ai (ai (ai @zci6 @zcol) (ai @zcoj @zcoi)) (ai (ai @zcok @zci1) (ai @zcja @zc5b))))
theorem zc9g : type_of% (ai (ai (ai (ai @zcni @zcjr) (ai @zciz @zcnn)) (ai (ai @zcjs @zcog) (ai @zciy @zbup))) (ai (ai (ai @zcjt @zcju) (ai @zcix @zciw)) (ai (ai @zcnm @zcnk) (ai @zcnj @zcnl)))) := (ai (ai (ai (ai @zcni @zcjr) (ai @zciz @zcnn)) (ai (ai @zcjs @zcog) (ai @zciy @zbup))) (ai (ai (ai @zcjt @zcju) (ai @zcix @zciw)) (ai (ai @zcnm @zcnk) (ai @zcnj @zcnl))))
theorem zc9f : type_of% (ai (ai (ai (ai @zcjq @zci0) (ai @zc5d @zcoo)) (ai (ai @zcjc @zcjj) (ai @zcnz @zcjd))) (ai (ai (ai @zcn0 @zcji) (ai @zbun @zcje)) (ai (ai @zcjf @zcjh) (ai @zcjg @zcny)))) := (ai (ai (ai (ai @zcjq @zci0) (ai @zc5d @zcoo)) (ai (ai @zcjc @zcjj) (ai @zcnz @zcjd))) (ai (ai (ai @zcn0 @zcji) (ai @zbun @zcje)) (ai (ai @zcjf @zcjh) (ai @zcjg @zcny))))
theorem zc9e : type_of% (ai (ai (ai (ai @zcnw @zcop) (ai @zcnx @zcjb)) (ai (ai @zcjk @zc55) (ai @zcpz @zck6))) (ai (ai (ai @zcmc @zcp5) (ai @zck7 @zco8)) (ai (ai @zcmb @zbr2) (ai @zck8 @zcl8)))) := (ai (ai (ai (ai @zcnw @zcop) (ai @zcnx @zcjb)) (ai (ai @zcjk @zc55) (ai @zcpz @zck6))) (ai (ai (ai @zcmc @zcp5) (ai @zck7 @zco8)) (ai (ai @zcmb @zbr2) (ai @zck8 @zcl8))))
theorem zc9d : type_of% (ai (ai (ai (ai @zcma @zcl9) (ai @zcp4 @zcp2)) (ai (ai @zcp1 @zcp3) (ai @zck5 @zcmd))) (ai (ai (ai @zcps @zclr) (ai @zbrv @zbro)) (ai (ai @zclw @zbru) (ai @zclx @zbrp)))) := (ai (ai (ai (ai @zcma @zcl9) (ai @zcp4 @zcp2)) (ai (ai @zcp1 @zcp3) (ai @zck5 @zcmd))) (ai (ai (ai @zcps @zclr) (ai @zbrv @zbro)) (ai (ai @zclw @zbru) (ai @zclx @zbrp))))
theorem zc9c : type_of% (ai (ai (ai (ai @zb0f @zbrt) (ai @zbrs @zbrq)) (ai (ai @zbrr @zclv) (ai @zclt @zcls))) (ai (ai (ai @zclu @zbrw) (ai @zbrn @zclz)) (ai (ai @zbrj @zb0c) (ai @zbz5 @zbrd)))) := (ai (ai (ai (ai @zb0f @zbrt) (ai @zbrs @zbrq)) (ai (ai @zbrr @zclv) (ai @zclt @zcls))) (ai (ai (ai @zclu @zbrw) (ai @zbrn @zclz)) (ai (ai @zbrj @zb0c) (ai @zbz5 @zbrd))))
theorem zc9b : type_of% (ai (ai (ai (ai @zb0b @zbrc) (ai @zbz6 @zb8e)) (ai (ai @zb0a @zbz9) (ai @zbz7 @zbz8))) (ai (ai (ai @zbre @zbrg) (ai @zbri @zbrf)) (ai (ai @zb0d @zbz4) (ai @zckg @zbtc)))) := (ai (ai (ai (ai @zb0b @zbrc) (ai @zbz6 @zb8e)) (ai (ai @zb0a @zbz9) (ai @zbz7 @zbz8))) (ai (ai (ai @zbre @zbrg) (ai @zbri @zbrf)) (ai (ai @zb0d @zbz4) (ai @zckg @zbtc))))
theorem zc9a : type_of% (ai (ai (ai (ai @zckf @zc72) (ai @zc56 @zcpd)) (ai (ai @zcpk @zc6a) (ai @zcpe @zc6b))) (ai (ai (ai @zcpj @zcme) (ai @zcpf @zcpg)) (ai (ai @zcpi @zcph) (ai @zc59 @zc57)))) := (ai (ai (ai (ai @zckf @zc72) (ai @zc56 @zcpd)) (ai (ai @zcpk @zc6a) (ai @zcpe @zc6b))) (ai (ai (ai @zcpj @zcme) (ai @zcpf @zcpg)) (ai (ai @zcpi @zcph) (ai @zc59 @zc57))))
theorem zc89 : type_of% (ai (ai (ai (ai @zc58 @zcpc) (ai @zcpl @zc71)) (ai (ai @zc6c @zcpm) (ai @zcli @zclp))) (ai (ai (ai @zcpq @zclj) (ai @zcpr @zclo)) (ai (ai @zbrx @zclk) (ai @zcll @zcln)))) := (ai (ai (ai (ai @zc58 @zcpc) (ai @zcpl @zc71)) (ai (ai @zc6c @zcpm) (ai @zcli @zclp))) (ai (ai (ai @zcpq @zclj) (ai @zcpr @zclo)) (ai (ai @zbrx @zclk) (ai @zcll @zcln))))
theorem zc88 : type_of% (ai (ai (ai (ai @zclm @zcpp) (ai @zcpn @zcpo)) (ai (ai @zcmf @zclq) (ai @zc8s @zclb))) (ai (ai (ai @zc61 @zbs3) (ai @zc4p @zb0w)) (ai (ai @zc4w @zb0p) (ai @zc66 @zbsw)))) := (ai (ai (ai (ai @zclm @zcpp) (ai @zcpn @zcpo)) (ai (ai @zcmf @zclq) (ai @zc8s @zclb))) (ai (ai (ai @zc61 @zbs3) (ai @zc4p @zb0w)) (ai (ai @zc4w @zb0p) (ai @zc66 @zbsw))))
theorem zc87 : type_of% (ai (ai (ai (ai @zc4q @zb0v) (ai @zc67 @zbsv)) (ai (ai @zc4v @zb0q) (ai @zcmy @zb8p))) (ai (ai (ai @zc4r @zb0u) (ai @zc4s @zb0t)) (ai (ai @zc4u @zb0r) (ai @zc4t @zb0s)))) := (ai (ai (ai (ai @zc4q @zb0v) (ai @zc67 @zbsv)) (ai (ai @zc4v @zb0q) (ai @zcmy @zb8p))) (ai (ai (ai @zc4r @zb0u) (ai @zc4s @zb0t)) (ai (ai @zc4u @zb0r) (ai @zc4t @zb0s))))
theorem zc86 : type_of% (ai (ai (ai (ai @zc65 @zbsx) (ai @zc63 @zbsz)) (ai (ai @zc62 @zbs2) (ai @zc64 @zbsy))) (ai (ai (ai @zc4o @zb0x) (ai @zc43 @zb0o)) (ai (ai @zc60 @zc8r) (ai @zbs4 @zcla)))) := (ai (ai (ai (ai @zc65 @zbsx) (ai @zc63 @zbsz)) (ai (ai @zc62 @zbs2) (ai @zc64 @zbsy))) (ai (ai (ai @zc4o @zb0x) (ai @zc43 @zb0o)) (ai (ai @zc60 @zc8r) (ai @zbs4 @zcla))))
theorem zc85 : type_of% (ai (ai (ai (ai @zcmo @zbpe) (ai @zc5e @zc4y)) (ai (ai @zcnf @zc5a) (ai @zcng @aj))) (ai (ai (ai @af @zbsq) (ai @zbls @ap)) (ai (ai @ah @zbs9) (ai @zbs8 @zb9c)))) := (ai (ai (ai (ai @zcmo @zbpe) (ai @zc5e @zc4y)) (ai (ai @zcnf @zc5a) (ai @zcng @aj))) (ai (ai (ai @af @zbsq) (ai @zbls @ap)) (ai (ai @ah @zbs9) (ai @zbs8 @zb9c))))
theorem zc84 : type_of% (ai (ai (ai (ai @zcjl @zbol) (ai @zcpa @zcpb)) (ai (ai @zckl @ba) (ai @zc5o @zc73))) (ai (ai (ai @zc6d @zcsi) (ai @zc7j @zbzq)) (ai (ai @zbzc @zbzi) (ai @zbzp @zb7w)))) := (ai (ai (ai (ai @zcjl @zbol) (ai @zcpa @zcpb)) (ai (ai @zckl @ba) (ai @zc5o @zc73))) (ai (ai (ai @zc6d @zcsi) (ai @zc7j @zbzq)) (ai (ai @zbzc @zbzi) (ai @zbzp @zb7w))))
theorem zc83 : type_of% (ai (ai (ai (ai @zbzb @zbzj) (ai @zbzk @zbzl)) (ai (ai @zbzm @zbzn) (ai @zbzh @zbzg))) (ai (ai (ai @zbzf @zbze) (ai @zbzd @zbzo)) (ai (ai @zbpy @zbpx) (ai @zby2 @zby1)))) := (ai (ai (ai (ai @zbzb @zbzj) (ai @zbzk @zbzl)) (ai (ai @zbzm @zbzn) (ai @zbzh @zbzg))) (ai (ai (ai @zbzf @zbze) (ai @zbzd @zbzo)) (ai (ai @zbpy @zbpx) (ai @zby2 @zby1))))
theorem zc82 : type_of% (ai (ai (ai (ai @zby3 @zc7h) (ai @zbs0 @zbti)) (ai (ai @zbsu @zbs1) (ai @zbth @zbtj))) (ai (ai (ai @zbuh @zc7z) (ai @zcqc @zcqg)) (ai (ai @zbve @zcm5) (ai @zcm4 @zc42)))) := (ai (ai (ai (ai @zby3 @zc7h) (ai @zbs0 @zbti)) (ai (ai @zbsu @zbs1) (ai @zbth @zbtj))) (ai (ai (ai @zbuh @zc7z) (ai @zcqc @zcqg)) (ai (ai @zbve @zcm5) (ai @zcm4 @zc42))))
theorem zc81 : type_of% (ai (ai (ai (ai @zcm6 @zc4c) (ai @zc41 @zc6h)) (ai (ai @zc4x @zcpu) (ai @zbrk @zcly))) (ai (ai (ai @zc40 @zckn) (ai @zckm @List.map_cons.{0,0})) (ai (ai @List.map_nil.{0,0} @List.getD_cons_zero.{0}) (ai @List.getD_cons_succ.{0} @List.getElem?_cons_zero.{0})))) := (ai (ai (ai (ai @zcm6 @zc4c) (ai @zc41 @zc6h)) (ai (ai @zc4x @zcpu) (ai @zbrk @zcly))) (ai (ai (ai @zc40 @zckn) (ai @zckm @List.map_cons.{0,0})) (ai (ai @List.map_nil.{0,0} @List.getD_cons_zero.{0}) (ai @List.getD_cons_succ.{0} @List.getElem?_cons_zero.{0}))))
theorem zc80 : type_of% (ai (ai (ai (ai @List.getElem?_cons_succ.{0} @List.length_cons.{0}) (ai @List.length_nil.{0} @List.drop_succ_cons.{0})) (ai (ai @List.drop_zero.{0} @List.take_succ_cons.{0}) (ai @List.take_zero.{0} @List.take_nil.{0}))) (ai (ai (ai @List.take_length.{0} @List.set_cons_zero.{0}) (ai @List.set_cons_succ.{0} @Option.map_some.{0,0})) (ai (ai @Option.map_none.{0,0} @Option.bind_some.{0,0}) (ai @and_true @true_and)))) := (ai (ai (ai (ai @List.getElem?_cons_succ.{0} @List.length_cons.{0}) (ai @List.length_nil.{0} @List.drop_succ_cons.{0})) (ai (ai @List.drop_zero.{0} @List.take_succ_cons.{0}) (ai @List.take_zero.{0} @List.take_nil.{0}))) (ai (ai (ai @List.take_length.{0} @List.set_cons_zero.{0}) (ai @List.set_cons_succ.{0} @Option.map_some.{0,0})) (ai (ai @Option.map_none.{0,0} @Option.bind_some.{0,0}) (ai @and_true @true_and))))
theorem zc8z : type_of% (ai (ai (ai (ai @Bool.not_true @Bool.not_false) (ai @List.all_cons.{0} @List.all_nil.{0})) (ai (ai @Bool.and_true @Bool.true_and) (ai @Bool.and_self @not_false_eq_true))) (ai (ai (ai @Nat.zero_add @Nat.le_refl) (ai @Nat.add_zero @Nat.zero_mul)) (ai (ai @Nat.mul_one @Nat.one_mul) (ai @Int.toNat_zero @Int.toNat_natCast)))) := (ai (ai (ai (ai @Bool.not_true @Bool.not_false) (ai @List.all_cons.{0} @List.all_nil.{0})) (ai (ai @Bool.and_true @Bool.true_and) (ai @Bool.and_self @not_false_eq_true))) (ai (ai (ai @Nat.zero_add @Nat.le_refl) (ai @Nat.add_zero @Nat.zero_mul)) (ai (ai @Nat.mul_one @Nat.one_mul) (ai @Int.toNat_zero @Int.toNat_natCast))))
theorem zc8y : type_of% (ai (ai (ai (ai @List.nil_append.{0} @List.cons_append.{0}) (ai @List.append_nil.{0} @cond_true.{1})) (ai (ai @cond_false.{1} @if_true.{1}) (ai @if_false.{1} @List.length_map.{0,0}))) (ai (ai (ai @List.length_append.{0} @not_true_eq_false) (ai @decide_eq_true_eq @or_true)) (ai (ai @true_or @or_false) (ai @false_or @ne_eq.{1})))) := (ai (ai (ai (ai @List.nil_append.{0} @List.cons_append.{0}) (ai @List.append_nil.{0} @cond_true.{1})) (ai (ai @cond_false.{1} @if_true.{1}) (ai @if_false.{1} @List.length_map.{0,0}))) (ai (ai (ai @List.length_append.{0} @not_true_eq_false) (ai @decide_eq_true_eq @or_true)) (ai (ai @true_or @or_false) (ai @false_or @ne_eq.{1}))))
theorem zc8x : type_of% (ai @eq_self.{1} (ai @bne_self_eq_false.{0} @beq_self_eq_true.{0})) := (ai @eq_self.{1} (ai @bne_self_eq_false.{0} @beq_self_eq_true.{0}))
theorem TT : type_of% (ai (ai (ai (ai (ai @TT0 @TT1) (ai @TT2 (ai @TT3 @TT4))) (ai (ai @TT5 @TT6) (ai @TT7 (ai @TT8 @TT9)))) (ai (ai (ai @zc9r @zc9q) (ai @zc9p (ai @zc9o @zc9n))) (ai (ai @zc9m @zc9l) (ai @zc9k (ai @zc9j @zc9i))))) (ai (ai (ai (ai @zc9h @zc9g) (ai @zc9f (ai @zc9e @zc9d))) (ai (ai @zc9c @zc9b) (ai @zc9a (ai @zc89 @zc88)))) (ai (ai (ai @zc87 @zc86) (ai @zc85 (ai @zc84 @zc83))) (ai (ai @zc82 (ai @zc81 @zc80)) (ai @zc8z (ai @zc8y @zc8x)))))) := (ai (ai (ai (ai (ai @TT0 @TT1) (ai @TT2 (ai @TT3 @TT4))) (ai (ai @TT5 @TT6) (ai @TT7 (ai @TT8 @TT9)))) (ai (ai (ai @zc9r @zc9q) (ai @zc9p (ai @zc9o @zc9n))) (ai (ai @zc9m @zc9l) (ai @zc9k (ai @zc9j @zc9i))))) (ai (ai (ai (ai @zc9h @zc9g) (ai @zc9f (ai @zc9e @zc9d))) (ai (ai @zc9c @zc9b) (ai @zc9a (ai @zc89 @zc88)))) (ai (ai (ai @zc87 @zc86) (ai @zc85 (ai @zc84 @zc83))) (ai (ai @zc82 (ai @zc81 @zc80)) (ai @zc8z (ai @zc8y @zc8x))))))
end Go.Proofs.Ytdcfoaafkppojaa.Sh
