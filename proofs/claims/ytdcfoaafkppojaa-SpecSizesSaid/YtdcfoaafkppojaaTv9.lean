import Derived.Test.YtdcfoaafkppojaaTv8
set_option linter.unusedVariables false
set_option linter.unusedSimpArgs false
/- The tree level: evaluation, step by step: printed by a program of ours. -/
namespace Go.Proofs.Ytdcfoaafkppojaa.Sh
open Go Go.RowKit
def pK (o : Option TV) (d : Option Nat) (K : aw) (fr : TF) (tk : TK) (τ : TH) : Prop := match o with | some v => K (gc fr d v) tk τ | none => False
def blkK (lv : List Nat) (tk : TK) (τ : TH) (fr' : TF) (tk' : TK) (τ' : TH) (K : aw) : Prop := if ltL τ.next tk.length (lv.map fun t => lkp fr' t) = true then K (sel lv fr') (tk'.take tk.length) (τ'.cut τ.next) else K (sel lv fr') tk' τ'
def fzK (o : Option TV) (τ : TH) (K : TV → TH → Prop) (τ' : TH) : Prop := match o with | some u => K u (τ'.cut τ.next) | none => False
def rtK (o : Option TV) (τ : TH) (K : TV → TH → Prop) (τ' : TH) : Prop := match o with | some v => (if v.canT.under τ.next then K v.canT (τ'.cut τ.next) else v.canT.under τ'.next = true ∧ K v.canT τ') | none => False
def pl (l : List au) : List (au × List Nat) := l.map fun x => (x,[])
def tLD (Γ : FuncId → Option TG) : List au → aw → aw
 | [],K => K
 | ⟨⟨d,i,none⟩,m⟩ :: r,K => fun fr tk τ => tG Γ true i m d (tLD Γ r K) fr tk τ
 | ⟨⟨d,i,some (t,b)⟩,m⟩ :: r,K => fun fr tk τ => gdK Γ true (lkp fr t) b i m d (tLD Γ r K) fr tk τ
section
variable (Γ : FuncId → Option TG) (dr : Bool) (d : Option Nat) (K : aw) (fr fr' : TF) (tk tk' : TK) (τ τ' : TH) (Q : TEx → aw) (a b : TC) (lv : List Nat) (r : List au) (m : Nat)
theorem tD_pl : ∀ (l : List au) (n : Nat) (told : List (Nat × Ins)) (K : aw),tD Γ n (pl l) K told = tLD Γ l K
 | [],n,told,K => rfl
 | ⟨⟨d,i,g⟩,m⟩ :: r,n,told,K => by
  funext fr tk τ
  cases g with
  | none =>
   show tG Γ true i m d (pnK _ n fr τ told [] (tD Γ (n + 1) (pl r) K)) fr tk τ = tG Γ true i m d (tLD Γ r K) fr tk τ
   have q : pnK ⟨⟨d,i,none⟩,m⟩ n fr τ told [] (tD Γ (n + 1) (pl r) K) = tLD Γ r K := by
    funext fr' tk' τ'
    unfold pnK
    simp [tD_pl r]
   rw [q]
  | some tb =>
   obtain ⟨t,b⟩ := tb
   show gdK Γ true (lkp fr t) b i m d (pnK _ n fr τ told [] (tD Γ (n + 1) (pl r) K)) fr tk τ = gdK Γ true (lkp fr t) b i m d (tLD Γ r K) fr tk τ
   have q : pnK ⟨⟨d,i,some (t,b)⟩,m⟩ n fr τ told [] (tD Γ (n + 1) (pl r) K) = tLD Γ r K := by
    funext fr' tk' τ'
    unfold pnK
    simp [tD_pl r]
   rw [q]
theorem n6 (i : I) : zz i 0 fr τ = (fr,τ) := rfl
theorem n5 (i : I) : zz i 1 fr τ = (fr,τ) := rfl
theorem n4 (i : I) : zz i 2 fr τ = (fr,τ) := rfl
theorem nz (i : I) : zz i 7 fr τ = (fr,τ) := rfl
theorem W_skip : tW Γ .skip Q fr tk τ = Q .normal fr tk τ := tW_skip
theorem W_exit (id : Nat) : tW Γ (.exit id) Q fr tk τ = Q (.exit id) fr tk τ := tW_exit
theorem W_ret : tW Γ (.ret lv) Q fr tk τ = Q .ret (sel lv fr) tk τ := tW_ret
theorem W_ops : tW Γ (.ops r) Q fr tk τ = tL Γ r (Q .normal) fr tk τ := tW_ops
theorem W_drawp : tW Γ (.draw (pl r)) Q fr tk τ = tLD Γ r (Q .normal) fr tk τ := by rw [iu,tD_pl]
theorem W_seq : tW Γ (.seq a b) Q fr tk τ = tW Γ a (thenT (tW Γ b Q) Q) fr tk τ := tW_seq
theorem W_cond (c : Operand) : tW Γ (.cond c a b) Q fr tk τ = cT Γ (tO fr c) a b Q fr tk τ := tW_cond
theorem W_block (id : Nat) : tW Γ (.block id lv a) Q fr tk τ = tW Γ a (zaj0 id lv tk τ Q) fr tk τ := tW_block
theorem W_clean : tW Γ (.clean lv a) Q fr tk τ = tW Γ a Q (sel lv fr) tk τ := tW_clean
theorem cT_bool (c : Bool) : cT Γ (.bool c) a b Q fr tk τ = if c = true then tW Γ a Q fr tk τ else tW Γ b Q fr tk τ := rfl
theorem thenT_n (n : aw) : thenT n Q .normal = n := rfl
theorem thenT_r (n : aw) : thenT n Q .ret = Q .ret := rfl
theorem thenT_e (n : aw) (id : Nat) : thenT n Q (.exit id) = Q (.exit id) := rfl
theorem zbhk (id : Nat) : zaj0 id lv tk τ Q .normal fr' tk' τ' = blkK lv tk τ fr' tk' τ' (Q .normal) := by unfold zaj0 blkK tx; simp only [true_or,if_true]; split <;> rfl
theorem zbhl (id : Nat) : zaj0 id lv tk τ Q (.exit id) fr' tk' τ' = blkK lv tk τ fr' tk' τ' (Q .normal) := by unfold zaj0 blkK tx; simp only [or_true,if_true]; split <;> rfl
theorem za9v (id j : Nat) (h : (j = id) = False) : zaj0 id lv tk τ Q (.exit j) = Q (.exit j) := by funext fr tk τ; unfold zaj0; simp [h]
theorem zbhj (id : Nat) : zaj0 id lv tk τ Q .ret = Q .ret := by funext fr tk τ; unfold zaj0; simp
theorem zba6 (Q : TEx → aw) : loopT Γ lv a tk τ Q .normal fr' tk' τ' = blkK lv tk τ fr' tk' τ' (tW Γ (.loop lv a) Q) := by simp only [loopT,blkK,tx]; split <;> rfl
theorem loopT_r (Q : TEx → aw) : loopT Γ lv a tk τ Q .ret = Q .ret := rfl
theorem loopT_e (Q : TEx → aw) (id : Nat) : loopT Γ lv a tk τ Q (.exit id) = Q (.exit id) := rfl
theorem blkK_eq : blkK lv tk τ fr' tk' τ' K = if ltL τ.next tk.length (lv.map fun t => lkp fr' t) = true then K (sel lv fr') (tk'.take tk.length) (τ'.cut τ.next) else K (sel lv fr') tk' τ' := rfl
theorem retT_r (rs : List R) (K : TV → TH → Prop) : retT rs false τ K .ret fr tk τ' = rtK (zbap rs fr τ') τ K τ' := by unfold retT rtK; cases zbap rs fr τ' <;> simp
theorem retT_n (rs : List R) (K : TV → TH → Prop) : retT rs false τ K .normal fr tk τ' = rtK (zbap rs fr τ') τ K τ' := by unfold retT rtK; cases zbap rs fr τ' <;> simp
theorem retT_zr (rs : List R) (K : TV → TH → Prop) : retT rs true τ K .ret fr tk τ' = fzK ((zbap rs fr τ').bind (tfz τ' τ.next)) τ K τ' := by unfold retT fzK; cases h : zbap rs fr τ' with | none => simp | some v => simp only [Option.bind_some,or_true,true_and,if_true]; cases tfz τ' τ.next v <;> rfl
theorem retT_zn (rs : List R) (K : TV → TH → Prop) : retT rs true τ K .normal fr tk τ' = fzK ((zbap rs fr τ').bind (tfz τ' τ.next)) τ K τ' := by unfold retT fzK; cases h : zbap rs fr τ' with | none => simp | some v => simp only [Option.bind_some,true_or,true_and,if_true]; cases tfz τ' τ.next v <;> rfl
theorem zbf6 (v : TV) (K : TV → TH → Prop) : fzK (some v) τ K τ' = K v (τ'.cut τ.next) := rfl
theorem zbde (v : TV) (K : TV → TH → Prop) : rtK (some v) τ K τ' = if v.canT.under τ.next then K v.canT (τ'.cut τ.next) else v.canT.under τ'.next = true ∧ K v.canT τ' := rfl
theorem tres_1 (r : R) : zbap [r] fr τ = zae2 fr τ r := rfl
theorem tres_0 : zbap [] fr τ = some (.tup []) := rfl
theorem tres_2 (r1 r2 : R) (l : List R) : zbap (r1 :: r2 :: l) fr τ = (zw fr τ (r1 :: r2 :: l)).map .tup := rfl
def consO (a : Option TV) (b : Option (List TV)) : Option (List TV) := match a,b with | some x,some y => some (x :: y) | _,_ => none
theorem zau3 : zw fr τ [] = some [] := rfl
theorem zaqn (r : R) (l : List R) : zw fr τ (r :: l) = consO (zae2 fr τ r) (zw fr τ l) := rfl
theorem za2m (x : TV) (y : List TV) : consO (some x) (some y) = some (x :: y) := rfl
def ld1 (τ : TH) : TV → Option TV | .ptr id off => za3k τ id off | .rptr cs off => cs[off]? | _ => none
def ldN (n : Nat) (τ : TH) : TV → Option TV | .ptr id off => if n = 0 then none else (za3f τ id off n).map .agg | .rptr cs off => if off + n ≤ cs.length then some (.agg ((cs.drop off).take n)) else none | _ => none
def rd1 (τ : TH) : TV → Option TV | .ptr id off => za3k τ id off | _ => none
def rdN (n : Nat) (τ : TH) : TV → Option TV | .ptr id off => if n = 0 then none else (za3f τ id off n).map .agg | _ => none
theorem zaxn (t : Nat) : zae2 fr τ (.tmp t) = some (lkp fr t) := rfl
theorem za1f (t : Nat) : zae2 fr τ (.cell1 t) = rd1 τ (lkp fr t) := rfl
theorem za1e (t n : Nat) : zae2 fr τ (.cellN t n) = rdN n τ (lkp fr t) := rfl
theorem rd1_ptr (id off : Nat) : rd1 τ (.ptr id off) = za3k τ id off := rfl
theorem rdN_ptr (n id off : Nat) : rdN n τ (.ptr id off) = if n = 0 then none else (za3f τ id off n).map .agg := rfl
theorem tL_nil : tL Γ [] K = K := rfl
theorem tL_none (i : I) : tL Γ (⟨⟨d,i,none⟩,m⟩ :: r) K fr tk τ = tG Γ false i m d (tL Γ r K) fr tk τ := rfl
theorem tL_some (i : I) (t : Nat) (b : Bool) : tL Γ (⟨⟨d,i,some (t,b)⟩,m⟩ :: r) K fr tk τ = gdK Γ false (lkp fr t) b i m d (tL Γ r K) fr tk τ := rfl
theorem tLD_nil : tLD Γ [] K = K := rfl
theorem zbc3 (i : I) : tLD Γ (⟨⟨d,i,none⟩,m⟩ :: r) K fr tk τ = tG Γ true i m d (tLD Γ r K) fr tk τ := rfl
theorem zbc2 (i : I) (t : Nat) (b : Bool) : tLD Γ (⟨⟨d,i,some (t,b)⟩,m⟩ :: r) K fr tk τ = gdK Γ true (lkp fr t) b i m d (tLD Γ r K) fr tk τ := rfl
theorem gd_tt (i : I) : gdK Γ dr (.bool true) true i m d K fr tk τ = tG Γ dr i m d K fr tk τ := by simp [gdK]
theorem gd_ff (i : I) : gdK Γ dr (.bool false) false i m d K fr tk τ = tG Γ dr i m d K fr tk τ := by simp [gdK]
theorem gd_tf (i : I) : gdK Γ dr (.bool true) false i m d K fr tk τ = K (gc fr d (.tup [])) tk τ := by simp [gdK]
theorem gd_ft (i : I) : gdK Γ dr (.bool false) true i m d K fr tk τ = K (gc fr d (.tup [])) tk τ := by simp [gdK]
theorem gd_tup (i : I) (b : Bool) : gdK Γ dr (.tup []) b i m d K fr tk τ = K (gc fr d (.tup [])) tk τ := rfl
theorem G_call (f : FuncId) (args : List Operand) : tG Γ dr (.call f args) 0 d K fr tk τ = fo Γ dr f (args.map fun a => (tO fr a).canT) d K fr tk τ := rfl
theorem G_callB (f : FuncId) (args : List Operand) : tG Γ dr (.call f args) 1 d K fr tk τ = borK Γ f (zaua (tfz τ 0) (args.map (tO fr))) d K fr tk τ := rfl
theorem zbcw (f : TV → Option TV) : zaua f [] = some [] := rfl
def zipO (a : Option TV) (b : Option (List TV)) : Option (List TV) := match a,b with | some x,some y => some (x :: y) | _,_ => none
theorem za5t (f : TV → Option TV) (v : TV) (l : List TV) : zaua f (v :: l) = zipO (f v) (zaua f l) := rfl
theorem za5a (v : TV) (l : List TV) : zipO (some v) (some l) = some (v :: l) := rfl
theorem tfz_agg (n0 : Nat) (cs : List TV) : tfz τ n0 (.agg cs) = (zaua (zawh τ n0 2) cs).map .agg := rfl
theorem zbcr (n0 : Nat) (b : Bool) : tfz τ n0 (.bool b) = some (TV.bool b) := rfl
theorem za5s (n0 : Nat) (b : Bool) : zawh τ n0 2 (.bool b) = some (TV.bool b) := rfl
theorem tfz_int (n0 : Nat) (k : IntKind) (n : Int) : tfz τ n0 (.int k n) = some (TV.int k n) := rfl
theorem zbcv (n0 : Nat) (k : IntKind) (n : Int) : zawh τ n0 2 (.int k n) = some (TV.int k n) := rfl
theorem tfz_str (n0 : Nat) (s : ByteArray) : tfz τ n0 (.str s) = some (TV.str s) := rfl
theorem zbcs (n0 : Nat) (s : ByteArray) : zawh τ n0 2 (.str s) = some (TV.str s) := rfl
theorem tfz_sl (n0 : Nat) (l : List TV) : tfz τ n0 (.sl l) = some (TV.sl l) := rfl
theorem tfzS_sl (n0 : Nat) (l : List TV) : zawh τ n0 2 (.sl l) = some (TV.sl l) := rfl
theorem tfz_sla (n0 : Nat) (k : Nat) (l : List TV) : tfz τ n0 (.sla k l) = some (TV.sl l) := rfl
theorem zbcu (n0 : Nat) (k : Nat) (l : List TV) : zawh τ n0 2 (.sla k l) = some (TV.sl l) := rfl
theorem tfz_slz (n0 : Nat) : tfz τ n0 .slz = some (.sl []) := rfl
theorem zbct (n0 : Nat) : zawh τ n0 2 .slz = some (.sl []) := rfl
theorem tfz_slm (n0 id off n sz : Nat) : tfz τ n0 (.slm id off n sz) = zawh τ n0 2 (.slm id off n sz) := rfl
theorem G_callW (f : FuncId) (args : List Operand) : tG Γ dr (.callW f args) m d K fr tk τ = fo Γ false f (args.map fun a => (tO fr a).canT) d K fr tk τ := rfl
def cvK (Γ : FuncId → Option TG) (dr : Bool) (v : TV) (args : List TV) (d : Option Nat) (K : aw) (fr : TF) (tk : TK) (τ : TH) : Prop := match v with | .func f a b => fo Γ dr f (a ++ args ++ b) d K fr tk τ | _ => False
theorem G_callv (x : Operand) (args : List Operand) : tG Γ dr (.callv x args) m d K fr tk τ = cvK Γ dr (tO fr x) (args.map fun a => (tO fr a).canT) d K fr tk τ := by unfold cvK; rfl
theorem zbh2 (x : Operand) (args : List Operand) : tG Γ dr (.callvW x args) m d K fr tk τ = cvK Γ false (tO fr x) (args.map fun a => (tO fr a).canT) d K fr tk τ := by unfold cvK; rfl
theorem cv_func (f : FuncId) (p q args : List TV) : cvK Γ dr (.func f p q) args d K fr tk τ = fo Γ dr f (p ++ args ++ q) d K fr tk τ := rfl
theorem pK_some (v : TV) : pK (some v) d K fr tk τ = K (gc fr d v) tk τ := rfl
theorem pK_ite (c : Prop) [Decidable c] (v : TV) : pK (if c then some v else none) d K fr tk τ = (c ∧ K (gc fr d v) tk τ) := by unfold pK; by_cases h : c <;> simp [h]
theorem zber (v : TV) : opK (some (v,tk',τ')) d K fr = K (gc fr d v) tk' τ' := rfl
theorem zba2 (c : Prop) [Decidable c] (x : TV × TK × TH) : opK (if c then some x else none) d K fr = (c ∧ opK (some x) d K fr) := by unfold opK; by_cases h : c <;> simp [h]
theorem G_mov (x : Operand) : tG Γ dr (.mov x) 0 d K fr tk τ = K (gc fr d (tO fr x)) tk τ := rfl
theorem G_mov3 (x : Operand) : tG Γ dr (.mov x) 3 d K fr tk τ = K (gc fr d (tO fr x).canT) tk τ := rfl
def nilTok (v : TV) (d : Option Nat) (K : aw) (fr : TF) (tk : TK) (τ : TH) : Prop := match v with | .slz => K (gc fr d (.sla tk.length [])) (tk ++ [some (0,0)]) τ | _ => False
theorem G_mov1 (x : Operand) : tG Γ dr (.mov x) 1 d K fr tk τ = nilTok (tO fr x) d K fr tk τ := by unfold nilTok; simp only [tG,tOp,if_true]; cases tO fr x <;> rfl
theorem zbe9 : nilTok .slz d K fr tk τ = K (gc fr d (.sla tk.length [])) (tk ++ [some (0,0)]) τ := rfl
def pickO (c a b : TV) : Option TV := match c with | .bool t => some (bif t then a else b) | _ => none
theorem ke (o : Option TV) : opK (o.map fun v => (v,tk,τ)) d K fr = pK o d K fr tk τ := by cases o <;> rfl
theorem G_pick (c a b : Operand) : tG Γ dr (.pick c a b) m d K fr tk τ = pK (pickO (tO fr c) (tO fr a) (tO fr b)) d K fr tk τ := (ke d K fr tk τ (tP (.pick c a b) fr τ)).trans (by unfold pickO; rfl)
theorem pickO_b (t : Bool) (v w : TV) : pickO (.bool t) v w = some (bif t then v else w) := rfl
theorem G_load1 (x : Operand) : tG Γ dr (.load1 x) 0 d K fr tk τ = pK (ld1 τ (tO fr x)) d K fr tk τ := (ke d K fr tk τ (tP (.load1 x) fr τ)).trans (by unfold ld1; rfl)
theorem ld1_ptr (id off : Nat) : ld1 τ (.ptr id off) = za3k τ id off := rfl
theorem zbfu (cs : List TV) (off : Nat) : ld1 τ (.rptr cs off) = cs[off]? := rfl
theorem G_loadN (n : Nat) (x : Operand) : tG Γ dr (.loadN n x) m d K fr tk τ = pK (ldN n τ (tO fr x)) d K fr tk τ := (ke d K fr tk τ (tP (.loadN n x) fr τ)).trans (by unfold ldN; rfl)
theorem ldN_ptr (n id off : Nat) : ldN n τ (.ptr id off) = if n = 0 then none else (za3f τ id off n).map .agg := rfl
theorem zbft (n : Nat) (cs : List TV) (off : Nat) : ldN n τ (.rptr cs off) = if off + n ≤ cs.length then some (.agg ((cs.drop off).take n)) else none := rfl
def nchk : TV → Option TV | .ptr id off => some (.ptr id off) | .rptr cs off => some (.rptr cs off) | .func f a b => some (.func f a b) | _ => none
theorem zbhy (x : Operand) : tG Γ dr (.nilchk x) m d K fr tk τ = pK (nchk (tO fr x)) d K fr tk τ := (ke d K fr tk τ (tP (.nilchk x) fr τ)).trans (by unfold nchk; rfl)
theorem zbfa (id off : Nat) : nchk (.ptr id off) = some (.ptr id off) := rfl
theorem za7e (cs : List TV) (off : Nat) : nchk (.rptr cs off) = some (.rptr cs off) := rfl
theorem za7f (f : FuncId) (p q : List TV) : nchk (.func f p q) = some (.func f p q) := rfl
theorem G_bin (op : BinOp) (x y : Operand) : tG Γ dr (.bin op x y) m d K fr tk τ = pK (zag3 op (tO fr x) (tO fr y)) d K fr tk τ := (ke d K fr tk τ (tP (.bin op x y) fr τ)).trans (by rfl)
def eqb (neg : Bool) (p q : TV) : Option TV := match p,q with | .bool p,.bool q => some (.bool (bif neg then p != q else p == q)) | _,_ => none
theorem G_eqB (neg : Bool) (x y : Operand) : tG Γ dr (.eqB neg x y) m d K fr tk τ = pK (eqb neg (tO fr x) (tO fr y)) d K fr tk τ := (ke d K fr tk τ (tP (.eqB neg x y) fr τ)).trans (by unfold eqb; rfl)
theorem eqb_bb (neg p q : Bool) : eqb neg (.bool p) (.bool q) = some (.bool (bif neg then p != q else p == q)) := rfl
theorem G_isNil (k : NK) (neg : Bool) (x : Operand) : tG Γ dr (.isNil k neg x) m d K fr tk τ = pK ((tnil k (tO fr x)).map fun b => .bool (bif neg then !b else b)) d K fr tk τ := (ke d K fr tk τ (tP (.isNil k neg x) fr τ)).trans (by rfl)
theorem zaxu  : tnil .p (.nilP) = some true := rfl
theorem za1i (i o : Nat) : tnil .p (.ptr i o) = some false := rfl
theorem zaxt (c : List TV) (o : Nat) : tnil .p (.rptr c o) = some false := rfl
theorem za1g  : tnil .s (.slz) = some true := rfl
theorem za5q (v : TV) (l : List TV) : tnil .s (.sl (v :: l)) = some false := rfl
theorem za1h (i o n s : Nat) : tnil .s (.slm i o n s) = some false := rfl
theorem zaxv  : tnil .m (.nilM) = some true := rfl
theorem zaxw  : tnil .f (.nilF) = some true := rfl
theorem zaxx (f : FuncId) (p q : List TV) : tnil .f (.func f p q) = some false := rfl
theorem G_un (op : UnOp) (x : Operand) : tG Γ dr (.un op x) m d K fr tk τ = pK (tun op (tO fr x)) d K fr tk τ := (ke d K fr tk τ (tP (.un op x) fr τ)).trans (by rfl)
def cnv (k : IntKind) : TV → Option TV | .int _ n => some (.int k (k.wrap n)) | _ => none
theorem G_conv (k : IntKind) (x : Operand) : tG Γ dr (.conv k x) m d K fr tk τ = pK (cnv k (tO fr x)) d K fr tk τ := (ke d K fr tk τ (tP (.conv k x) fr τ)).trans (by unfold cnv; rfl)
theorem cnv_int (k j : IntKind) (n : Int) : cnv k (.int j n) = some (.int k (k.wrap n)) := rfl
def cnvS : TV → Option TV | .str s => some (.str s) | _ => none
theorem G_convS (x : Operand) : tG Γ dr (.convS x) m d K fr tk τ = pK (cnvS (tO fr x)) d K fr tk τ := (ke d K fr tk τ (tP (.convS x) fr τ)).trans (by unfold cnvS; rfl)
theorem zbgk (s : ByteArray) : cnvS (.str s) = some (.str s) := rfl
def fad (off : Nat) : TV → Option TV | .ptr id o => some (.ptr id (o + off)) | .rptr cs o => some (.rptr cs (o + off)) | _ => none
theorem za0a (off : Nat) (x : Operand) : tG Γ dr (.fieldAddr off x) 0 d K fr tk τ = pK (fad off (tO fr x)) d K fr tk τ := (ke d K fr tk τ (tP (.fieldAddr off x) fr τ)).trans (by unfold fad; rfl)
def lfO (b : Option Ob) (id o off : Nat) (d : Option Nat) (K : aw) (fr : TF) (tk : TK) (τ : TH) : Prop := match b with
 | some b => (τ.lock ≤ id ∧ b.cs ≠ []) ∧ K (gc (za6i id τ.next fr) d (.ptr τ.next (o + off))) tk ((τ.put id ⟨b.t,[]⟩).push b)
 | none => False
def lfK (off : Nat) (v : TV) (d : Option Nat) (K : aw) (fr : TF) (tk : TK) (τ : TH) : Prop := match v with | .ptr id o => lfO (τ.at id) id o off d K fr tk τ | _ => False
theorem tO_ren (id n : Nat) (fr : TF) (x : Operand) : tO (za6i id n fr) x = ren id n (tO fr x) ∨ ∃ v,x = .const v := by
 cases x with
 | tmp t =>
  left
  induction fr with
  | nil => rfl
  | cons p r ih =>
   obtain ⟨k,v⟩ := p
   show lkp ((k,ren id n v) :: za6i id n r) t = ren id n (lkp ((k,v) :: r) t)
   simp only [lkp]
   by_cases h : t = k
   · rw [if_pos h,if_pos h]
   · rw [if_neg h,if_neg h]; exact ih
 | const v => exact .inr ⟨v,rfl⟩
 | func f => left; rfl
 | global g => left; rfl
theorem G_lift (off : Nat) (t : Nat) (h : lfK off (lkp fr t) d K fr tk τ) : tG Γ dr (.fieldAddr off (.tmp t)) 9 d K fr tk τ := by
 unfold lfK at h
 split at h
 · rename_i id o hz
   have hz' : tO fr (.tmp t) = .ptr id o := hz
   unfold lfO at h
   split at h
   · rename_i b hb
     obtain ⟨hc,h⟩ := h
     have e : zz (.fieldAddr off (.tmp t)) 9 fr τ = (za6i id τ.next fr,(τ.put id ⟨b.t,[]⟩).push b) := by
      unfold zz zbau
      rw [if_pos rfl]
      simp only [hz',hb]
      rw [if_pos hc]
     simp only [tG,e]
     have e2 : tO (za6i id τ.next fr) (.tmp t) = .ptr τ.next o := by
      rcases tO_ren id τ.next fr (.tmp t) with e2 | ⟨v,e2⟩
      · rw [e2,hz']; simp [ren]
      · cases e2
     simp only [tOp,tP,e2]
     exact h
   · exact h.elim
 · exact h.elim
theorem lfK_ptr (off id o : Nat) : lfK off (.ptr id o) d K fr tk τ = lfO (τ.at id) id o off d K fr tk τ := rfl
theorem zbfp (id o off : Nat) (t : TypeId) (cs : List TV) : lfO (some ⟨t,cs⟩) id o off d K fr tk τ = ((τ.lock ≤ id ∧ cs ≠ []) ∧ K (gc (za6i id τ.next fr) d (.ptr τ.next (o + off))) tk ((τ.put id ⟨t,[]⟩).push ⟨t,cs⟩)) := rfl
theorem zbdp (i n : Nat) : za6i i n [] = [] := rfl
theorem za6h (i n k : Nat) (v : TV) (l : TF) : za6i i n ((k,v) :: l) = (k,ren i n v) :: za6i i n l := rfl
theorem ren_ptr (i n j o : Nat) : ren i n (.ptr j o) = if j = i then .ptr n o else .ptr j o := rfl
theorem za6g (i n : Nat)  : ren i n (TV.undef ) = TV.undef  := rfl
theorem zbdo (i n : Nat) (b : Bool) : ren i n (TV.bool b) = TV.bool b := rfl
theorem ren_int (i n : Nat) (k : IntKind) (x : Int) : ren i n (TV.int k x) = TV.int k x := rfl
theorem ren_str (i n : Nat) (s : ByteArray) : ren i n (TV.str s) = TV.str s := rfl
theorem zbdj (i n : Nat)  : ren i n (TV.nilP ) = TV.nilP  := rfl
theorem zbdi (i n : Nat) (c : List TV) (o : Nat) : ren i n (TV.rptr c o) = TV.rptr c o := rfl
theorem ren_slz (i n : Nat)  : ren i n (TV.slz ) = TV.slz  := rfl
theorem ren_sl (i n : Nat) (l : List TV) : ren i n (TV.sl l) = TV.sl l := rfl
theorem ren_sla (i n : Nat) (k : Nat) (l : List TV) : ren i n (TV.sla k l) = TV.sla k l := rfl
theorem ren_slb (i n : Nat) (k : Nat) (t : TypeId) : ren i n (TV.slb k t) = TV.slb k t := rfl
theorem ren_slo (i n : Nat) (t : TypeId) (l : List TV) : ren i n (TV.slo t l) = TV.slo t l := rfl
theorem ren_slm (i n : Nat) (j o n0 s : Nat) : ren i n (TV.slm j o n0 s) = TV.slm j o n0 s := rfl
theorem zbdk (i n : Nat)  : ren i n (TV.nilM ) = TV.nilM  := rfl
theorem zbdm (i n : Nat)  : ren i n (TV.nilF ) = TV.nilF  := rfl
theorem zbdn (i n : Nat) (f : FuncId) (p q : List TV) : ren i n (TV.func f p q) = TV.func f p q := rfl
theorem zbdl (i n : Nat)  : ren i n (TV.nilI ) = TV.nilI  := rfl
theorem ren_agg (i n : Nat) (cs : List TV) : ren i n (TV.agg cs) = TV.agg cs := rfl
theorem ren_tup (i n : Nat) (cs : List TV) : ren i n (TV.tup cs) = TV.tup cs := rfl
theorem fad_ptr (off id o : Nat) : fad off (.ptr id o) = some (.ptr id (o + off)) := rfl
theorem zbf8 (off : Nat) (cs : List TV) (o : Nat) : fad off (.rptr cs o) = some (.rptr cs (o + off)) := rfl
def fl1 (off : Nat) : TV → Option TV | .agg cs => cs[off]? | _ => none
theorem zbh1 (off : Nat) (x : Operand) : tG Γ dr (.field1 off x) m d K fr tk τ = pK (fl1 off (tO fr x)) d K fr tk τ := (ke d K fr tk τ (tP (.field1 off x) fr τ)).trans (by unfold fl1; rfl)
theorem fl1_agg (off : Nat) (cs : List TV) : fl1 off (.agg cs) = cs[off]? := rfl
def flN (off n : Nat) : TV → Option TV | .agg cs => if off + n ≤ cs.length then some (.agg ((cs.drop off).take n)) else none | _ => none
theorem zbh0 (off n : Nat) (x : Operand) : tG Γ dr (.fieldN off n x) m d K fr tk τ = pK (flN off n (tO fr x)) d K fr tk τ := (ke d K fr tk τ (tP (.fieldN off n x) fr τ)).trans (by unfold flN; rfl)
theorem flN_agg (off n : Nat) (cs : List TV) : flN off n (.agg cs) = if off + n ≤ cs.length then some (.agg ((cs.drop off).take n)) else none := rfl
def ixP (len sz : Nat) (x i : TV) : Option TV := match x,i with
 | .ptr id o,.int _ n => if 0 ≤ n ∧ n < len then some (.ptr id (o + n.toNat * sz)) else none
 | .rptr cs o,.int _ n => if 0 ≤ n ∧ n < len then some (.rptr cs (o + n.toNat * sz)) else none
 | _,_ => none
theorem za3a (len sz : Nat) (x i : Operand) : tG Γ dr (.indexPtr len sz x i) m d K fr tk τ = pK (ixP len sz (tO fr x) (tO fr i)) d K fr tk τ := (ke d K fr tk τ (tP (.indexPtr len sz x i) fr τ)).trans (by unfold ixP; rfl)
theorem ixP_ptr (len sz id o : Nat) (k : IntKind) (n : Int) : ixP len sz (.ptr id o) (.int k n) = if 0 ≤ n ∧ n < len then some (.ptr id (o + n.toNat * sz)) else none := rfl
theorem zbfx (len sz : Nat) (cs : List TV) (o : Nat) (k : IntKind) (n : Int) : ixP len sz (.rptr cs o) (.int k n) = if 0 ≤ n ∧ n < len then some (.rptr cs (o + n.toNat * sz)) else none := rfl
def ixS (sz : Nat) (x i : TV) : Option TV := match i with
 | .int _ n => (match x with
  | .slm id o len s => if 0 ≤ n ∧ n < len ∧ s = sz then some (.ptr id (o + n.toNat * sz)) else none
  | v => v.list.bind fun l => if 0 ≤ n ∧ n < l.length ∧ (l.getD n.toNat .undef).cells.length = sz then some (.rptr (l.getD n.toNat .undef).cells 0) else none)
 | _ => none
theorem zbad (sz : Nat) (x i : Operand) : tG Γ dr (.indexSl sz x i) m d K fr tk τ = pK (ixS sz (tO fr x) (tO fr i)) d K fr tk τ := (ke d K fr tk τ (tP (.indexSl sz x i) fr τ)).trans (by unfold ixS; rfl)
theorem ixS_sl (sz : Nat) (l : List TV) (j : IntKind) (n : Int) : ixS sz (.sl l) (.int j n) = if 0 ≤ n ∧ n < l.length ∧ (l.getD n.toNat .undef).cells.length = sz then some (.rptr (l.getD n.toNat .undef).cells 0) else none := rfl
theorem ixS_sla (sz : Nat) (k : Nat) (l : List TV) (j : IntKind) (n : Int) : ixS sz (.sla k l) (.int j n) = if 0 ≤ n ∧ n < l.length ∧ (l.getD n.toNat .undef).cells.length = sz then some (.rptr (l.getD n.toNat .undef).cells 0) else none := rfl
theorem ixS_slm (sz id o len s : Nat) (j : IntKind) (n : Int) : ixS sz (.slm id o len s) (.int j n) = if 0 ≤ n ∧ n < len ∧ s = sz then some (.ptr id (o + n.toNat * sz)) else none := rfl
def ixT (x i : TV) : Option TV := match x,i with | .str s,.int _ n => if 0 ≤ n ∧ n < s.size then some (.int .u8 (s.data.getD n.toNat 0).toNat) else none | _,_ => none
theorem za29 (x i : Operand) : tG Γ dr (.indexStr x i) m d K fr tk τ = pK (ixT (tO fr x) (tO fr i)) d K fr tk τ := (ke d K fr tk τ (tP (.indexStr x i) fr τ)).trans (by unfold ixT; rfl)
theorem ixT_s (s : ByteArray) (k : IntKind) (n : Int) : ixT (.str s) (.int k n) = if 0 ≤ n ∧ n < s.size then some (.int .u8 (s.data.getD n.toNat 0).toNat) else none := rfl
def slT (x : TV) (lo hi : Option TV) : Option TV := match x with | .str s => (mq s.size lo hi).map fun lh => .str (s.extract lh.1 lh.2) | _ => none
theorem za28 (x : Operand) (lo hi : Option Operand) : tG Γ dr (.sliceStr x lo hi) m d K fr tk τ = pK (slT (tO fr x) (lo.map (tO fr)) (hi.map (tO fr))) d K fr tk τ := (ke d K fr tk τ (tP (.sliceStr x lo hi) fr τ)).trans (by unfold slT; rfl)
theorem slT_s (s : ByteArray) (lo hi : Option TV) : slT (.str s) lo hi = (mq s.size lo hi).map fun lh => .str (s.extract lh.1 lh.2) := rfl
def slS (sz : Nat) (x : TV) (lo hi : Option TV) : Option TV := match x with
 | .slm id o len s => if s = sz then (mq len lo hi).map fun lh => .slm id (o + lh.1 * sz) (lh.2 - lh.1) sz else none
 | .sl l => if l.all (fun e => e.cells.length == sz) && !l.isEmpty then (mq l.length lo hi).map fun lh => .sl ((l.take lh.2).drop lh.1) else none
 | .sla _ l => if l.all (fun e => e.cells.length == sz) && !l.isEmpty then (mq l.length lo hi).map fun lh => .sl ((l.take lh.2).drop lh.1) else none
 | _ => none
theorem za99 (sz : Nat) (x : Operand) (lo hi : Option Operand) : tG Γ dr (.sliceSl sz x lo hi) m d K fr tk τ = pK (slS sz (tO fr x) (lo.map (tO fr)) (hi.map (tO fr))) d K fr tk τ := (ke d K fr tk τ (tP (.sliceSl sz x lo hi) fr τ)).trans (by unfold slS; rfl)
theorem slS_sl (sz : Nat) (l : List TV) (lo hi : Option TV) : slS sz (.sl l) lo hi = if l.all (fun e => e.cells.length == sz) && !l.isEmpty then (mq l.length lo hi).map fun lh => .sl ((l.take lh.2).drop lh.1) else none := rfl
theorem slS_sla (sz k : Nat) (l : List TV) (lo hi : Option TV) : slS sz (.sla k l) lo hi = if l.all (fun e => e.cells.length == sz) && !l.isEmpty then (mq l.length lo hi).map fun lh => .sl ((l.take lh.2).drop lh.1) else none := rfl
theorem slS_slm (sz id o len s : Nat) (lo hi : Option TV) : slS sz (.slm id o len s) lo hi = if s = sz then (mq len lo hi).map fun lh => .slm id (o + lh.1 * sz) (lh.2 - lh.1) sz else none := rfl
theorem tb_nn (n : Nat) : mq n none none = some (0,n) := rfl
theorem tb_ln (n : Nat) (k : IntKind) (l : Int) : mq n (some (.int k l)) none = if 0 ≤ l ∧ l ≤ n then some (l.toNat,n) else none := rfl
theorem tb_nh (n : Nat) (k : IntKind) (h : Int) : mq n none (some (.int k h)) = if 0 ≤ h ∧ h ≤ n then some (0,h.toNat) else none := by unfold mq tHi; by_cases c : 0 ≤ h ∧ h ≤ n <;> simp [c,tLo]
theorem tb_lh (n : Nat) (k j : IntKind) (l h : Int) : mq n (some (.int k l)) (some (.int j h)) = if (0 ≤ h ∧ h ≤ n) ∧ 0 ≤ l ∧ l ≤ h then some (l.toNat,h.toNat) else none := by
 unfold mq tHi
 by_cases c : 0 ≤ h ∧ h ≤ n
 · have e : ((h.toNat : Nat) : Int) = h := by omega
   simp only [c,and_self,if_true,Option.bind_some,tLo,e,true_and]
 · have c' : ¬ ((0 ≤ h ∧ h ≤ n) ∧ 0 ≤ l ∧ l ≤ h) := fun q => c q.1
   rw [if_neg c']
   simp [c]
theorem map_ite {α β : Type} (c : Prop) [Decidable c] (x : α) (f : α → β) : (if c then some x else none : Option α).map f = if c then some (f x) else none := by by_cases h : c <;> simp [h]
def lenT : TV → Option TV | .str s => some (.int .i64 s.size) | _ => none
theorem G_lenS (x : Operand) : tG Γ dr (.lenS x) m d K fr tk τ = pK (lenT (tO fr x)) d K fr tk τ := (ke d K fr tk τ (tP (.lenS x) fr τ)).trans (by unfold lenT; rfl)
theorem lenT_s (s : ByteArray) : lenT (.str s) = some (.int .i64 s.size) := rfl
def lenV : TV → Option TV | .slm _ _ n _ => some (.int .i64 n) | v => v.list.map fun l => .int .i64 l.length
theorem G_lenL (x : Operand) : tG Γ dr (.lenL x) m d K fr tk τ = pK (lenV (tO fr x)) d K fr tk τ := (ke d K fr tk τ (tP (.lenL x) fr τ)).trans (by unfold lenV; rfl)
theorem zbfr (id o n s : Nat) : lenV (.slm id o n s) = some (.int .i64 n) := rfl
theorem lenV_sl (l : List TV) : lenV (.sl l) = some (.int .i64 l.length) := rfl
theorem zbfs (k : Nat) (l : List TV) : lenV (.sla k l) = some (.int .i64 l.length) := rfl
theorem zbfq : lenV .slz = some (.int .i64 0) := rfl
def minT (x y : TV) : Option TV := match x,y with | .int k a,.int _ b => some (.int k (if b < a then b else a)) | _,_ => none
theorem G_min (x y : Operand) : tG Γ dr (.min x y) m d K fr tk τ = pK (minT (tO fr x) (tO fr y)) d K fr tk τ := (ke d K fr tk τ (tP (.min x y) fr τ)).trans (by unfold minT; rfl)
theorem minT_i (k j : IntKind) (a b : Int) : minT (.int k a) (.int j b) = some (.int k (if b < a then b else a)) := rfl
def maxT (x y : TV) : Option TV := match x,y with | .int k a,.int _ b => some (.int k (if a < b then b else a)) | _,_ => none
theorem G_max (x y : Operand) : tG Γ dr (.max x y) m d K fr tk τ = pK (maxT (tO fr x) (tO fr y)) d K fr tk τ := (ke d K fr tk τ (tP (.max x y) fr τ)).trans (by unfold maxT; rfl)
theorem maxT_i (k j : IntKind) (a b : Int) : maxT (.int k a) (.int j b) = some (.int k (if a < b then b else a)) := rfl
theorem zbhz (f : FuncId) (first captured : List Operand) : tG Γ dr (.mkFunc (.func f) first captured) m d K fr tk τ = K (gc fr d (.func f (first.map fun x => (tO fr x).canS) (captured.map fun x => (tO fr x).canS))) tk τ := rfl
def exT (i : Nat) : TV → Option TV | .tup cs => cs[i]? | _ => none
theorem zbae (x : Operand) (i : Nat) : tG Γ dr (.extract x i) m d K fr tk τ = pK (exT i (tO fr x)) d K fr tk τ := (ke d K fr tk τ (tP (.extract x i) fr τ)).trans (by unfold exT; rfl)
theorem exT_t (i : Nat) (cs : List TV) : exT i (.tup cs) = cs[i]? := rfl
theorem G_build (zero : List Value) (parts : List (Nat × Nat × Operand)) : tG Γ dr (.build zero parts) m d K fr tk τ = pK ((za5v (zero.map ofS) (parts.map fun p => (p.1,p.2.1,tO fr p.2.2))).map .agg) d K fr tk τ := (ke d K fr tk τ (tP (.build zero parts) fr τ)).trans (by rfl)
theorem za5u (cs : List TV) : za5v cs [] = some cs := rfl
theorem za1j (cs : List TV) (off size : Nat) (v : TV) (r : List (Nat × Nat × TV)) : za5v cs ((off,size,v) :: r) = if v.known = true ∧ v.cells.length = size ∧ off + size ≤ cs.length then za5v (za3e cs off (v.cells.map TV.part)) r else none := rfl
theorem za3d (cs : List TV) (off : Nat) : za3e cs off [] = cs := rfl
theorem zaxm (cs : List TV) (off : Nat) (v : TV) (r : List TV) : za3e cs off (v :: r) = za3e (cs.set off v) (off + 1) r := rfl
def strO (τ : TH) : TV → Option TV | .slm id off n s => (if s = 1 then ((za3f τ id off n).bind vr).map fun bs => .str ⟨bs.toArray⟩ else none) | v => (v.list.bind vr).map fun bs => .str ⟨bs.toArray⟩
theorem G_toStr (x : Operand) : tG Γ dr (.toStr x) m d K fr tk τ = pK (strO τ (tO fr x)) d K fr tk τ := (ke d K fr tk τ (tP (.toStr x) fr τ)).trans (by unfold strO; rfl)
theorem zbav (l : List TV) : strO τ (.sl l) = (vr l).map fun bs => .str ⟨bs.toArray⟩ := rfl
theorem za3l (k : Nat) (l : List TV) : strO τ (.sla k l) = (vr l).map fun bs => .str ⟨bs.toArray⟩ := rfl
theorem zbc5 : strO τ .slz = some (.str ⟨#[]⟩) := rfl
theorem zbc6 (id off n s : Nat) : strO τ (.slm id off n s) = if s = 1 then ((za3f τ id off n).bind vr).map fun bs => .str ⟨bs.toArray⟩ else none := rfl
def ixA (len : Nat) (x i : TV) : Option TV := match x,i with | .agg cs,.int _ n => if 0 ≤ n ∧ n < len ∧ len ≤ cs.length then cs[n.toNat]? else none | _,_ => none
theorem za3b (len : Nat) (x i : Operand) : tG Γ dr (.indexAgg len x i) m d K fr tk τ = pK (ixA len (tO fr x) (tO fr i)) d K fr tk τ := (ke d K fr tk τ (tP (.indexAgg len x i) fr τ)).trans (by unfold ixA; rfl)
theorem ixA_a (len : Nat) (cs : List TV) (k : IntKind) (n : Int) : ixA len (.agg cs) (.int k n) = if 0 ≤ n ∧ n < len ∧ len ≤ cs.length then cs[n.toNat]? else none := rfl
def ixAN (len sz : Nat) (x i : TV) : Option TV := match x,i with | .agg cs,.int _ n => if 0 ≤ n ∧ n < len ∧ len * sz ≤ cs.length then some (.agg ((cs.drop (n.toNat * sz)).take sz)) else none | _,_ => none
theorem zaz9 (len sz : Nat) (x i : Operand) : tG Γ dr (.indexAggN len sz x i) m d K fr tk τ = pK (ixAN len sz (tO fr x) (tO fr i)) d K fr tk τ := (ke d K fr tk τ (tP (.indexAggN len sz x i) fr τ)).trans (by unfold ixAN; rfl)
theorem ixAN_a (len sz : Nat) (cs : List TV) (k : IntKind) (n : Int) : ixAN len sz (.agg cs) (.int k n) = if 0 ≤ n ∧ n < len ∧ len * sz ≤ cs.length then some (.agg ((cs.drop (n.toNat * sz)).take sz)) else none := rfl
def eqA (neg : Bool) (ks : List FK) (x y : TV) : Option TV := match x,y with | .agg p,.agg q => (teqs ks p q).map fun b => .bool (bif neg then !b else b) | _,_ => none
theorem G_eqF (neg : Bool) (ks : List FK) (x y : Operand) : tG Γ dr (.eqF neg ks x y) m d K fr tk τ = pK (eqA neg ks (tO fr x) (tO fr y)) d K fr tk τ := (ke d K fr tk τ (tP (.eqF neg ks x y) fr τ)).trans (by unfold eqA; rfl)
theorem eqA_a (neg : Bool) (ks : List FK) (p q : List TV) : eqA neg ks (.agg p) (.agg q) = (teqs ks p q).map fun b => .bool (bif neg then !b else b) := rfl
theorem G_box (t n : Nat) (x : Operand) : tG Γ dr (.box t n x) m d K fr tk τ = (((tO fr x).cells.all TV.one = true ∧ ju τ.next ((tO fr x).cells.map TV.put) = true) ∧ K (gc fr d (.ptr τ.next 0)) tk (τ.push ⟨t,(tO fr x).cells.map TV.put⟩)) := zba2 d K fr _ _
def stK (n : Nat) (a x : TV) (d : Option Nat) (K : aw) (fr : TF) (tk : TK) (τ : TH) : Prop := match a with
 | .ptr id off => x.cells.length = n ∧ (match zaxk τ id off (x.cells.map TV.put) with | some τ' => K (gc fr d (.tup [])) tk τ' | none => False)
 | _ => False
theorem G_store (n : Nat) (y x : Operand) : tG Γ dr (.store n y x) 0 d K fr tk τ = stK n (tO fr y) (tO fr x) d K fr tk τ := by
 have e0 : zz (.store n y x) 0 fr τ = (fr,τ) := rfl
 simp only [tG,e0,tOp,stK]
 cases tO fr y with
 | ptr id off =>
  by_cases h : (tO fr x).cells.length = n
  · simp only [h,if_true,true_and,show (0 : Nat) = 2 ↔ False from by decide,if_false]
    cases zaxk τ id off ((tO fr x).cells.map TV.put) <;> rfl
  · simp [h,opK]
 | _ => rfl
def stB (o : Option Ob) (id off : Nat) (vs : List TV) (d : Option Nat) (K : aw) (fr : TF) (tk : TK) (τ : TH) : Prop := match o with
 | some b => (τ.lock ≤ id ∧ vs ≠ [] ∧ off + vs.length ≤ b.cs.length ∧ (vs.all TV.one = true) ∧ ju (id + 1) vs = true) ∧ K (gc fr d (.tup [])) tk (τ.put id ⟨b.t,za3e b.cs off vs⟩)
 | none => False
theorem G_stlift (n t : Nat) (x : Operand) (id o : Nat) (T : TypeId) (cs : List TV) (hz : lkp fr t = .ptr id o) (hb : τ.at id = some ⟨T,cs⟩) (hc : τ.lock ≤ id ∧ cs ≠ []) (hx : ∀ v,x ≠ .const v)
 (h : stK n (.ptr τ.next o) (ren id τ.next (tO fr x)) d K (za6i id τ.next fr) tk ((τ.put id ⟨T,[]⟩).push ⟨T,cs⟩)) : tG Γ dr (.store n (.tmp t) x) 9 d K fr tk τ := by
 have hz' : tO fr (.tmp t) = .ptr id o := hz
 have e : zz (.store n (.tmp t) x) 9 fr τ = (za6i id τ.next fr,(τ.put id ⟨T,[]⟩).push ⟨T,cs⟩) := by
  unfold zz zbau
  rw [if_pos rfl]
  simp only [hz',hb]
  rw [if_pos hc]
 have e2 : tO (za6i id τ.next fr) (.tmp t) = .ptr τ.next o := by
  rcases tO_ren id τ.next fr (.tmp t) with e2 | ⟨v,e2⟩
  · rw [e2,hz']; simp [ren]
  · cases e2
 have e3 : tO (za6i id τ.next fr) x = ren id τ.next (tO fr x) := by
  rcases tO_ren id τ.next fr x with e3 | ⟨v,e3⟩
  · exact e3
  · exact absurd e3 (hx v)
 simp only [tG,e,tOp,e2,e3]
 unfold stK at h
 simp only at h
 rw [if_neg (by decide),if_pos h.1]
 have h2 := h.2
 revert h2
 cases zaxk ((τ.put id ⟨T,[]⟩).push ⟨T,cs⟩) τ.next o ((ren id τ.next (tO fr x)).cells.map TV.put) <;> exact fun h => h
theorem stK_ptr (n id off : Nat) (x : TV) : stK n (.ptr id off) x d K fr tk τ = (x.cells.length = n ∧ stB (τ.at id) id off (x.cells.map TV.put) d K fr tk τ) := by
 simp only [stK,stB,zaxk]
 cases τ.at id with
 | none => rfl
 | some b =>
  simp only [Option.bind_some]
  split
  · rename_i τ' h
    split at h
    · rename_i hc; injection h with h; subst h; simp only [hc,ne_eq,not_false_eq_true,and_self,true_and]
    · cases h
  · rename_i h
    split at h
    · cases h
    · rename_i hc; simp only [hc,false_and]
theorem zbc9 (t : TypeId) (cs : List TV) (id off : Nat) (vs : List TV) : stB (some ⟨t,cs⟩) id off vs d K fr tk τ = ((τ.lock ≤ id ∧ vs ≠ [] ∧ off + vs.length ≤ cs.length ∧ (vs.all TV.one = true) ∧ ju (id + 1) vs = true) ∧ K (gc fr d (.tup [])) tk (τ.put id ⟨t,za3e cs off vs⟩)) := rfl
def tkB (o : Option Ob) (id off : Nat) (d : Option Nat) (K : aw) (fr : TF) (tk : TK) (τ : TH) : Prop := match o with
 | some b => (match b.cs[off]? with | some (.slo t l) => τ.lock ≤ id ∧ K (gc fr d (.sla tk.length l)) (tk ++ [some (l.length,t)]) (τ.put id ⟨b.t,b.cs.set off (.sl l)⟩) | some .slz => τ.lock ≤ id ∧ K (gc fr d (.sla tk.length [])) (tk ++ [some (0,0)]) (τ.put id ⟨b.t,b.cs.set off (.sl [])⟩) | _ => False)
 | none => False
def tkK (x : TV) (d : Option Nat) (K : aw) (fr : TF) (tk : TK) (τ : TH) : Prop := match x with | .ptr id off => tkB (τ.at id) id off d K fr tk τ | _ => False
def tkC (t : TypeId) (cs : List TV) (id off : Nat) (v : Option TV) (d : Option Nat) (K : aw) (fr : TF) (tk : TK) (τ : TH) : Prop := match v with | some (.slo u l) => τ.lock ≤ id ∧ K (gc fr d (.sla tk.length l)) (tk ++ [some (l.length,u)]) (τ.put id ⟨t,cs.set off (.sl l)⟩) | some .slz => τ.lock ≤ id ∧ K (gc fr d (.sla tk.length [])) (tk ++ [some (0,0)]) (τ.put id ⟨t,cs.set off (.sl [])⟩) | _ => False
theorem G_load2 (x : Operand) : tG Γ dr (.load1 x) 2 d K fr tk τ = tkK (tO fr x) d K fr tk τ := by
 simp only [tG,tOp,tkK,if_true]
 cases tO fr x with
 | ptr id off =>
  simp only [tkB]
  cases τ.at id with
  | none => rfl
  | some b =>
   simp only [Option.bind_some]
   cases hq : b.cs[off]? with
   | none => rfl
   | some v =>
    cases v with
    | slo t l => by_cases h : τ.lock ≤ id <;> simp [h,opK]
    | slz => by_cases h : τ.lock ≤ id <;> simp [h,opK]
    | _ => rfl
 | _ => rfl
theorem tkK_ptr (id off : Nat) : tkK (.ptr id off) d K fr tk τ = tkB (τ.at id) id off d K fr tk τ := rfl
theorem zbcq (t : TypeId) (cs : List TV) (id off : Nat) : tkB (some ⟨t,cs⟩) id off d K fr tk τ = tkC t cs id off cs[off]? d K fr tk τ := rfl
theorem zbar (t : TypeId) (cs : List TV) (id off : Nat) : tkC t cs id off (some .slz) d K fr tk τ = (τ.lock ≤ id ∧ K (gc fr d (.sla tk.length [])) (tk ++ [some (0,0)]) (τ.put id ⟨t,cs.set off (.sl [])⟩)) := rfl
theorem zbas (t u : TypeId) (cs l : List TV) (id off : Nat) : tkC t cs id off (some (.slo u l)) d K fr tk τ = (τ.lock ≤ id ∧ K (gc fr d (.sla tk.length l)) (tk ++ [some (l.length,u)]) (τ.put id ⟨t,cs.set off (.sl l)⟩)) := rfl
def s2K (n : Nat) (a x : TV) (d : Option Nat) (K : aw) (fr : TF) (tk : TK) (τ : TH) : Prop := match a,x with
 | .ptr id off,.sla tok l => (match tk[tok]? with
  | some (some (k,t)) => (k = l.length ∧ n = 1) ∧ stB (τ.at id) id off [.slo t l] d K fr (tk.set tok none) τ
  | _ => False)
 | _,_ => False
def s2T (o : Option (Option (Nat × TypeId))) (n id off tok : Nat) (l : List TV) (d : Option Nat) (K : aw) (fr : TF) (tk : TK) (τ : TH) : Prop := match o with
 | some (some (k,t)) => (k = l.length ∧ n = 1) ∧ stB (τ.at id) id off [.slo t l] d K fr (tk.set tok none) τ
 | _ => False
theorem zbhx (n : Nat) (y x : Operand) : tG Γ dr (.store n y x) 2 d K fr tk τ = s2K n (tO fr y) (tO fr x) d K fr tk τ := by
 have e0 : zz (.store n y x) 2 fr τ = (fr,τ) := rfl
 simp only [tG,e0,tOp,s2K,if_true]
 cases tO fr y with
 | ptr id off =>
  cases tO fr x with
  | sla tok l =>
   simp only
   cases tk[tok]? with
   | none => rfl
   | some o =>
    cases o with
    | none => rfl
    | some p =>
     obtain ⟨k,t⟩ := p
     by_cases h : k = l.length ∧ n = 1
     · simp only [h,and_self,if_true,true_and,zaxk,stB]
       cases τ.at id with
       | none => rfl
       | some b =>
        simp only [Option.bind_some]
        by_cases hc : τ.lock ≤ id ∧ [TV.slo t l] ≠ [] ∧ off + [TV.slo t l].length ≤ b.cs.length ∧ ([TV.slo t l].all TV.one = true) ∧ ju (id + 1) [TV.slo t l] = true
        · rw [if_pos hc]; simp only [hc,ne_eq,not_false_eq_true,and_self,true_and]; rfl
        · rw [if_neg hc]; simp only [hc,false_and]; rfl
     · simp only [h,if_false,false_and]; rfl
  | _ => rfl
 | _ => rfl
theorem s2K_ptr (n id off tok : Nat) (l : List TV) : s2K n (.ptr id off) (.sla tok l) d K fr tk τ = s2T (tk[tok]?) n id off tok l d K fr tk τ := rfl
theorem zbdd (n id off tok k t : Nat) (l : List TV) : s2T (some (some (k,t))) n id off tok l d K fr tk τ = ((k = l.length ∧ n = 1) ∧ stB (τ.at id) id off [.slo t l] d K fr (tk.set tok none) τ) := rfl
def bsO (m : Nat) (t sz : Nat) (o : Option (List TV)) (d : Option Nat) (K : aw) (fr : TF) (tk : TK) (τ : TH) : Prop := match o with | some l => (if m = 1 then K (gc fr d (.slm τ.next 0 l.length sz)) tk (τ.push ⟨t,l.flatMap TV.cells⟩) else if m = 2 then (l ≠ [] ∧ l.length ≤ maxLen) ∧ K (gc fr d (.sla tk.length l)) (tk ++ [some (l.length,t)]) τ else K (gc fr d (.sl l)) tk τ) | none => False
theorem zbaf (t sz len : Nat) (zeros : List Value) (parts : List (Nat × Nat × Operand)) : tG Γ dr (.buildSl t sz len zeros parts) m d K fr tk τ = ((parts.length = len ∧ sz ≠ 0 ∧ zeros.length = len * sz) ∧ bsO m t sz (zake sz 0 (parts.map fun p => (p.1,p.2.1,tO fr p.2.2))) d K fr tk τ) := by
 simp only [tG,tOp,bsO]
 by_cases h : parts.length = len ∧ sz ≠ 0 ∧ zeros.length = len * sz
 · rw [if_pos h]
   cases zake sz 0 (parts.map fun p => (p.1,p.2.1,tO fr p.2.2)) with
   | none => exact propext ⟨False.elim,fun q => q.2⟩
   | some l =>
    simp only [Option.bind_some,and_iff_right h]
    by_cases h1 : m = 1
    · rw [if_pos h1,if_pos h1]; rfl
    · rw [if_neg h1,if_neg h1]
      by_cases h2 : m = 2
      · rw [if_pos h2,if_pos h2]
        by_cases h3 : l ≠ [] ∧ l.length ≤ maxLen
        · rw [if_pos h3]; exact propext ⟨fun q => ⟨h3,q⟩,fun q => q.2⟩
        · rw [if_neg h3]; exact propext ⟨False.elim,fun q => h3 q.1⟩
      · rw [if_neg h2,if_neg h2]; rfl
 · rw [if_neg h]; simp only [h,false_and]; rfl
theorem bsO_0 (t sz : Nat) (l : List TV) : bsO 0 t sz (some l) d K fr tk τ = K (gc fr d (.sl l)) tk τ := rfl
theorem bsO_1 (t sz : Nat) (l : List TV) : bsO 1 t sz (some l) d K fr tk τ = K (gc fr d (.slm τ.next 0 l.length sz)) tk (τ.push ⟨t,l.flatMap TV.cells⟩) := rfl
theorem bsO_2 (t sz : Nat) (l : List TV) : bsO 2 t sz (some l) d K fr tk τ = ((l ≠ [] ∧ l.length ≤ maxLen) ∧ K (gc fr d (.sla tk.length l)) (tk ++ [some (l.length,t)]) τ) := rfl
theorem za1k (sz i : Nat) : zake sz i [] = some [] := rfl
theorem zaxz (sz i off n : Nat) (v : TV) (r : List (Nat × Nat × TV)) : zake sz i ((off,n,v) :: r) = if off = i * sz ∧ n = sz ∧ v.canA.cells.length = sz ∧ v.canA.pure = true then (zake sz (i + 1) r).map (v.canA :: ·) else none := rfl
def msK (mu : Bool) (t bytes : Nat) (zero : List Value) (l c : TV) (d : Option Nat) (K : aw) (fr : TF) (tk : TK) (τ : TH) : Prop := match l,c with
 | .int _ n,.int _ k => (0 ≤ n ∧ n ≤ k ∧ k * bytes ≤ 140737488355328 ∧ k ≤ 9223372036854775807 ∧ zero.length ≠ 0 ∧ (zero.all fun z => (ofS z).canS.pureS) = true) ∧
  (bif mu then K (gc fr d (.slm τ.next 0 n.toNat zero.length)) tk (τ.push ⟨t,((List.replicate n.toNat (zero.map fun z => (ofS z).put)).flatten)⟩) else K (gc fr d (.sl (List.replicate n.toNat (zbgb (zero.map fun z => (ofS z).canS))))) tk τ)
 | _,_ => False
theorem zbac (t bytes : Nat) (zero : List Value) (l c : Operand) : tG Γ dr (.makeSl t bytes zero l c) 0 d K fr tk τ = msK false t bytes zero (tO fr l) (tO fr c) d K fr tk τ := by
 simp only [tG,tOp,msK]
 cases tO fr l with
 | int k1 n =>
  cases tO fr c with
  | int k2 k =>
   simp only
   by_cases h : 0 ≤ n ∧ n ≤ k ∧ k * bytes ≤ 140737488355328 ∧ k ≤ 9223372036854775807 ∧ zero.length ≠ 0 ∧ (zero.all fun z => (ofS z).canS.pureS) = true
   · rw [if_pos h]; simp only [h,ne_eq,not_false_eq_true,and_self,true_and]; rfl
   · rw [if_neg h]; simp only [h,false_and]; rfl
  | _ => rfl
 | _ => rfl
theorem zbab (t bytes : Nat) (zero : List Value) (l c : Operand) : tG Γ dr (.makeSl t bytes zero l c) 1 d K fr tk τ = msK true t bytes zero (tO fr l) (tO fr c) d K fr tk τ := by
 simp only [tG,tOp,msK]
 cases tO fr l with
 | int k1 n =>
  cases tO fr c with
  | int k2 k =>
   simp only
   by_cases h : 0 ≤ n ∧ n ≤ k ∧ k * bytes ≤ 140737488355328 ∧ k ≤ 9223372036854775807 ∧ zero.length ≠ 0 ∧ (zero.all fun z => (ofS z).canS.pureS) = true
   · rw [if_pos h]; simp only [h,ne_eq,not_false_eq_true,and_self,true_and]; rfl
   · rw [if_neg h]; simp only [h,false_and]; rfl
  | _ => rfl
 | _ => rfl
def msA (t bytes : Nat) (zero : List Value) (l c : TV) (d : Option Nat) (K : aw) (fr : TF) (tk : TK) (τ : TH) : Prop := match l,c with
 | .int _ n,.int _ k => (0 ≤ n ∧ n ≤ k ∧ k * bytes ≤ 140737488355328 ∧ k ≤ 9223372036854775807 ∧ zero.length ≠ 0 ∧ (zero.all fun z => (ofS z).canS.pureS) = true) ∧ (n = 0 ∧ zero.length = 1) ∧ K (gc fr d (.slb tk.length t)) (tk ++ [some (0,t)]) τ
 | _,_ => False
theorem zbaa (t bytes : Nat) (zero : List Value) (l c : Operand) : tG Γ dr (.makeSl t bytes zero l c) 2 d K fr tk τ = msA t bytes zero (tO fr l) (tO fr c) d K fr tk τ := by
 simp only [tG,tOp,msA]
 cases tO fr l with
 | int k1 n =>
  cases tO fr c with
  | int k2 k =>
   simp only
   by_cases h : 0 ≤ n ∧ n ≤ k ∧ k * bytes ≤ 140737488355328 ∧ k ≤ 9223372036854775807 ∧ zero.length ≠ 0 ∧ (zero.all fun z => (ofS z).canS.pureS) = true
   · rw [if_pos h,if_neg (by decide),if_pos trivial]
     by_cases h2 : n = 0 ∧ zero.length = 1
     · rw [if_pos h2]; exact propext ⟨fun q => ⟨h,h2,q⟩,fun q => q.2.2⟩
     · rw [if_neg h2]; exact propext ⟨False.elim,fun q => h2 q.2.1⟩
   · rw [if_neg h]; simp only [h,false_and]; rfl
  | _ => rfl
 | _ => rfl
theorem msA_i (t bytes : Nat) (zero : List Value) (j1 j2 : IntKind) (n k : Int) : msA t bytes zero (.int j1 n) (.int j2 k) d K fr tk τ = ((0 ≤ n ∧ n ≤ k ∧ k * bytes ≤ 140737488355328 ∧ k ≤ 9223372036854775807 ∧ zero.length ≠ 0 ∧ (zero.all fun z => (ofS z).canS.pureS) = true) ∧ (n = 0 ∧ zero.length = 1) ∧ K (gc fr d (.slb tk.length t)) (tk ++ [some (0,t)]) τ) := rfl
theorem msK_i (mu : Bool) (t bytes : Nat) (zero : List Value) (j1 j2 : IntKind) (n k : Int) : msK mu t bytes zero (.int j1 n) (.int j2 k) d K fr tk τ = ((0 ≤ n ∧ n ≤ k ∧ k * bytes ≤ 140737488355328 ∧ k ≤ 9223372036854775807 ∧ zero.length ≠ 0 ∧ (zero.all fun z => (ofS z).canS.pureS) = true) ∧ (bif mu then K (gc fr d (.slm τ.next 0 n.toNat zero.length)) tk (τ.push ⟨t,((List.replicate n.toNat (zero.map fun z => (ofS z).put)).flatten)⟩) else K (gc fr d (.sl (List.replicate n.toNat (zbgb (zero.map fun z => (ofS z).canS))))) tk τ)) := rfl
def apK (t sz bytes : Nat) (s : TV) (o : Option (List TV)) (d : Option Nat) (K : aw) (fr : TF) (tk : TK) (τ : TH) : Prop := match o with
 | some xs => (match tapp t sz bytes s xs tk with | some (v,tk') => K (gc fr d v) tk' τ | none => False)
 | none => False
def apT (o : Option (Option (Nat × TypeId))) (t sz bytes tok : Nat) (l xs : List TV) (d : Option Nat) (K : aw) (fr : TF) (tk : TK) (τ : TH) : Prop := match o with
 | some (some (n,t')) => ((xs.all (fun e => e.cells.length == sz && e.pure) = true ∧ xs.length * bytes ≤ 140737488355328 ∧ xs.length ≤ maxLen) ∧ n = l.length ∧ (n = 0 ∨ t' = t) ∧ (l.all (fun e => e.cells.length == sz) = true) ∧ (l.length + xs.length) * bytes ≤ 140737488355328 ∧ l.length + xs.length ≤ maxLen) ∧
  K (gc fr d (.sla tok (l ++ xs))) (tk.set tok (some (l.length + xs.length,t))) τ
 | _ => False
theorem zbh3 (t sz bytes : Nat) (s x : Operand) : tG Γ dr (.append t sz bytes s x) 0 d K fr tk τ = (sz ≠ 0 ∧ apK t sz bytes (tO fr s) (tO fr x).list d K fr tk τ) := by
 simp only [tG,tOp,apK]
 by_cases h : sz = 0
 · simp [h,opK]
 · simp only [h,if_false,ne_eq,not_false_eq_true,true_and]
   cases (tO fr x).list with
   | none => rfl
   | some xs =>
    simp only [Option.bind_some,show (0 : Nat) = 1 ↔ False from by decide,if_false]
    cases tapp t sz bytes (tO fr s) xs tk <;> rfl
def amK (t sz bytes : Nat) (s : TV) (o : Option (List TV)) (d : Option Nat) (K : aw) (fr : TF) (tk : TK) (τ : TH) : Prop := match o with
 | some xs => (match tappM t sz bytes s xs τ with | some (v,τ') => K (gc fr d v) tk τ' | none => False)
 | none => False
def amO (b : Option Ob) (t sz bytes id n : Nat) (xs : List TV) (d : Option Nat) (K : aw) (fr : TF) (tk : TK) (τ : TH) : Prop := match b with
 | some b => (b.t = t ∧ b.cs.length = n * sz ∧ n ≠ 0 ∧ τ.lock ≤ id ∧ (n + xs.length) * bytes ≤ 140737488355328 ∧ n + xs.length ≤ maxLen) ∧ K (gc fr d (.slm τ.next 0 (n + xs.length) sz)) tk ((τ.put id ⟨t,[]⟩).push ⟨t,b.cs ++ xs.flatMap TV.cells⟩)
 | none => False
theorem zbai (t sz bytes : Nat) (s x : Operand) : tG Γ dr (.append t sz bytes s x) 1 d K fr tk τ = (sz ≠ 0 ∧ amK t sz bytes (tO fr s) (tO fr x).list d K fr tk τ) := by
 simp only [tG,tOp,amK]
 by_cases h : sz = 0
 · simp [h,opK]
 · simp only [h,if_false,ne_eq,not_false_eq_true,true_and]
   cases (tO fr x).list with
   | none => rfl
   | some xs =>
    simp only [Option.bind_some,if_true]
    cases tappM t sz bytes (tO fr s) xs τ <;> rfl
theorem amK_slz (t sz bytes : Nat) (xs : List TV) : amK t sz bytes .slz (some xs) d K fr tk τ = ((xs ≠ [] ∧ xs.all (fun e => e.cells.length == sz && e.pure) = true) ∧ (xs.length * bytes ≤ 140737488355328 ∧ xs.length ≤ maxLen) ∧ K (gc fr d (.slm τ.next 0 xs.length sz)) tk (τ.push ⟨t,xs.flatMap TV.cells⟩)) := by
 simp only [amK,tappM]
 by_cases h : xs ≠ [] ∧ xs.all (fun e => e.cells.length == sz && e.pure) = true
 · rw [if_pos h]
   by_cases h2 : xs.length * bytes ≤ 140737488355328 ∧ xs.length ≤ maxLen
   · rw [if_pos h2]; exact propext ⟨fun q => ⟨h,h2,q⟩,fun q => q.2.2⟩
   · rw [if_neg h2]; exact propext ⟨False.elim,fun q => h2 q.2.1⟩
 · rw [if_neg h]; exact propext ⟨False.elim,fun q => h q.1⟩
theorem amK_slm (t sz bytes id n : Nat) (xs : List TV) : amK t sz bytes (.slm id 0 n sz) (some xs) d K fr tk τ = ((xs ≠ [] ∧ xs.all (fun e => e.cells.length == sz && e.pure) = true) ∧ amO (τ.at id) t sz bytes id n xs d K fr tk τ) := by
 simp only [amK,tappM,amO]
 by_cases h : xs ≠ [] ∧ xs.all (fun e => e.cells.length == sz && e.pure) = true
 · rw [if_pos h]
   cases τ.at id with
   | none => exact propext ⟨False.elim,fun q => q.2⟩
   | some b =>
    simp only [Option.bind_some,true_and]
    by_cases h2 : b.t = t ∧ b.cs.length = n * sz ∧ n ≠ 0 ∧ τ.lock ≤ id ∧ (n + xs.length) * bytes ≤ 140737488355328 ∧ n + xs.length ≤ maxLen
    · rw [if_pos h2]; exact propext ⟨fun q => ⟨h,h2,q⟩,fun q => q.2.2⟩
    · rw [if_neg h2]; exact propext ⟨False.elim,fun q => h2 q.2.1⟩
 · rw [if_neg h]; exact propext ⟨False.elim,fun q => h q.1⟩
theorem zbht (t u sz bytes id n : Nat) (cs xs : List TV) : amO (some ⟨u,cs⟩) t sz bytes id n xs d K fr tk τ = ((u = t ∧ cs.length = n * sz ∧ n ≠ 0 ∧ τ.lock ≤ id ∧ (n + xs.length) * bytes ≤ 140737488355328 ∧ n + xs.length ≤ maxLen) ∧ K (gc fr d (.slm τ.next 0 (n + xs.length) sz)) tk ((τ.put id ⟨t,[]⟩).push ⟨t,cs ++ xs.flatMap TV.cells⟩)) := rfl
def atK (t sz bytes : Nat) (s : TV) (o : Option (List TV)) (d : Option Nat) (K : aw) (fr : TF) (tk : TK) (τ : TH) : Prop := match o with
 | some xs => (match tappT t sz bytes s xs τ with | some (v,τ') => K (gc fr d v) tk τ' | none => False)
 | none => False
def atO (b : Option Ob) (t sz bytes id n : Nat) (xs : List TV) (d : Option Nat) (K : aw) (fr : TF) (tk : TK) (τ : TH) : Prop := match b with
 | some b => (b.t = t ∧ n * sz ≤ b.cs.length ∧ b.cs ≠ [] ∧ τ.lock ≤ id ∧ (n + xs.length) * bytes ≤ 140737488355328 ∧ n + xs.length ≤ maxLen) ∧ K (gc fr d (.slm τ.next 0 (n + xs.length) sz)) tk ((τ.put id ⟨t,[]⟩).push ⟨t,b.cs.take (n * sz) ++ xs.flatMap TV.cells⟩)
 | none => False
theorem zbah (t sz bytes : Nat) (s x : Operand) : tG Γ dr (.append t sz bytes s x) 4 d K fr tk τ = (sz ≠ 0 ∧ atK t sz bytes (tO fr s) (tO fr x).list d K fr tk τ) := by
 simp only [tG,tOp,atK]
 by_cases h : sz = 0
 · simp [h,opK]
 · simp only [h,if_false,ne_eq,not_false_eq_true,true_and]
   cases (tO fr x).list with
   | none => rfl
   | some xs =>
    simp only [Option.bind_some,if_true]
    cases tappT t sz bytes (tO fr s) xs τ <;> rfl
theorem atK_slm (t sz bytes id n : Nat) (xs : List TV) : atK t sz bytes (.slm id 0 n sz) (some xs) d K fr tk τ = ((xs ≠ [] ∧ xs.all (fun e => e.cells.length == sz && e.pure) = true) ∧ atO (τ.at id) t sz bytes id n xs d K fr tk τ) := by
 simp only [atK,tappT,atO]
 by_cases h : xs ≠ [] ∧ xs.all (fun e => e.cells.length == sz && e.pure) = true
 · rw [if_pos h]
   cases τ.at id with
   | none => exact propext ⟨False.elim,fun q => q.2⟩
   | some b =>
    simp only [Option.bind_some,true_and]
    by_cases h2 : b.t = t ∧ n * sz ≤ b.cs.length ∧ b.cs ≠ [] ∧ τ.lock ≤ id ∧ (n + xs.length) * bytes ≤ 140737488355328 ∧ n + xs.length ≤ maxLen
    · rw [if_pos h2]; exact propext ⟨fun q => ⟨h,h2,q⟩,fun q => q.2.2⟩
    · rw [if_neg h2]; exact propext ⟨False.elim,fun q => h2 q.2.1⟩
 · rw [if_neg h]; exact propext ⟨False.elim,fun q => h q.1⟩
theorem zbhp (t u sz bytes id n : Nat) (cs xs : List TV) : atO (some ⟨u,cs⟩) t sz bytes id n xs d K fr tk τ = ((u = t ∧ n * sz ≤ cs.length ∧ cs ≠ [] ∧ τ.lock ≤ id ∧ (n + xs.length) * bytes ≤ 140737488355328 ∧ n + xs.length ≤ maxLen) ∧ K (gc fr d (.slm τ.next 0 (n + xs.length) sz)) tk ((τ.put id ⟨t,[]⟩).push ⟨t,cs.take (n * sz) ++ xs.flatMap TV.cells⟩)) := rfl
theorem apK_slz (t sz bytes : Nat) (xs : List TV) : apK t sz bytes .slz (some xs) d K fr tk τ = ((xs.all (fun e => e.cells.length == sz && e.pure) = true ∧ xs.length * bytes ≤ 140737488355328 ∧ xs.length ≤ maxLen) ∧ K (gc fr d (.sla tk.length xs)) (tk ++ [some (xs.length,t)]) τ) := by
 simp only [apK,tapp]
 by_cases h : xs.all (fun e => e.cells.length == sz && e.pure) = true ∧ xs.length * bytes ≤ 140737488355328 ∧ xs.length ≤ maxLen
 · rw [if_pos h]; simp only [h,and_self,true_and]
 · rw [if_neg h]; simp only [h,false_and]
theorem apK_sla (t sz bytes tok : Nat) (l xs : List TV) : apK t sz bytes (.sla tok l) (some xs) d K fr tk τ = apT (tk[tok]?) t sz bytes tok l xs d K fr tk τ := by
 simp only [apK,tapp,apT]
 by_cases h : xs.all (fun e => e.cells.length == sz && e.pure) = true ∧ xs.length * bytes ≤ 140737488355328 ∧ xs.length ≤ maxLen
 · rw [if_pos h]
   cases tk[tok]? with
   | none => rfl
   | some o =>
    cases o with
    | none => rfl
    | some p =>
     obtain ⟨n,t'⟩ := p
     simp only
     by_cases h2 : n = l.length ∧ (n = 0 ∨ t' = t) ∧ (l.all (fun e => e.cells.length == sz) = true) ∧ (l.length + xs.length) * bytes ≤ 140737488355328 ∧ l.length + xs.length ≤ maxLen
     · rw [if_pos h2]; exact propext ⟨fun q => ⟨⟨h,h2⟩,q⟩,fun q => q.2⟩
     · rw [if_neg h2]; simp only [h2,and_false,false_and]
 · rw [if_neg h]
   cases tk[tok]? with
   | none => rfl
   | some o =>
    cases o with
    | none => rfl
    | some p => simp only [h,false_and]
theorem zbhr (n t' t sz bytes tok : Nat) (l xs : List TV) : apT (some (some (n,t'))) t sz bytes tok l xs d K fr tk τ = (((xs.all (fun e => e.cells.length == sz && e.pure) = true ∧ xs.length * bytes ≤ 140737488355328 ∧ xs.length ≤ maxLen) ∧ n = l.length ∧ (n = 0 ∨ t' = t) ∧ (l.all (fun e => e.cells.length == sz) = true) ∧ (l.length + xs.length) * bytes ≤ 140737488355328 ∧ l.length + xs.length ≤ maxLen) ∧ K (gc fr d (.sla tok (l ++ xs))) (tk.set tok (some (l.length + xs.length,t))) τ) := rfl
def apB (o : Option (Option (Nat × TypeId))) (t sz bytes tok t0 : Nat) (xs : List TV) (d : Option Nat) (K : aw) (fr : TF) (tk : TK) (τ : TH) : Prop := match o with
 | some (some (n,t')) => ((xs.all (fun e => e.cells.length == sz && e.pure) = true ∧ xs.length * bytes ≤ 140737488355328 ∧ xs.length ≤ maxLen) ∧ n = 0 ∧ t0 = t ∧ sz = 1 ∧ xs ≠ []) ∧
  K (gc fr d (.sla tok xs)) (tk.set tok (some (xs.length,t))) τ
 | _ => False
theorem apK_slb (t sz bytes tok t0 : Nat) (xs : List TV) : apK t sz bytes (.slb tok t0) (some xs) d K fr tk τ = apB (tk[tok]?) t sz bytes tok t0 xs d K fr tk τ := by
 simp only [apK,tapp,apB]
 by_cases h : xs.all (fun e => e.cells.length == sz && e.pure) = true ∧ xs.length * bytes ≤ 140737488355328 ∧ xs.length ≤ maxLen
 · rw [if_pos h]
   cases tk[tok]? with
   | none => rfl
   | some o =>
    cases o with
    | none => rfl
    | some p =>
     obtain ⟨n,t'⟩ := p
     simp only
     by_cases h2 : n = 0 ∧ t0 = t ∧ sz = 1 ∧ xs ≠ []
     · rw [if_pos h2]; exact propext ⟨fun q => ⟨⟨h,h2⟩,q⟩,fun q => q.2⟩
     · rw [if_neg h2]; simp only [h2,and_false,false_and]
 · rw [if_neg h]
   cases tk[tok]? with
   | none => rfl
   | some o =>
    cases o with
    | none => rfl
    | some p => simp only [h,false_and]
theorem zbhs (n t' t sz bytes tok t0 : Nat) (xs : List TV) : apB (some (some (n,t'))) t sz bytes tok t0 xs d K fr tk τ = (((xs.all (fun e => e.cells.length == sz && e.pure) = true ∧ xs.length * bytes ≤ 140737488355328 ∧ xs.length ≤ maxLen) ∧ n = 0 ∧ t0 = t ∧ sz = 1 ∧ xs ≠ []) ∧ K (gc fr d (.sla tok xs)) (tk.set tok (some (xs.length,t))) τ) := rfl
def asK (t : Nat) (s x : TV) (d : Option Nat) (K : aw) (fr : TF) (tk : TK) (τ : TH) : Prop := match x with | .str b => apK t 1 1 s (some (ce b)) d K fr tk τ | _ => False
theorem zbag (t : Nat) (s x : Operand) : tG Γ dr (.appendS t s x) m d K fr tk τ = asK t (tO fr s) (tO fr x) d K fr tk τ := by
 simp only [tG,tOp,asK,apK]
 cases tO fr x with
 | str b => simp only; cases tapp t 1 1 (tO fr s) (ce b) tk <;> rfl
 | _ => rfl
theorem asK_s (t : Nat) (s : TV) (b : ByteArray) : asK t s (.str b) d K fr tk τ = apK t 1 1 s (some (ce b)) d K fr tk τ := rfl
def tbK (mu : Bool) (t : Nat) (x : TV) (d : Option Nat) (K : aw) (fr : TF) (tk : TK) (τ : TH) : Prop := match x with | .str s => (bif mu then K (gc fr d (.slm τ.next 0 s.size 1)) tk (τ.push ⟨t,ce s⟩) else K (gc fr d (.sl (ce s))) tk τ) | _ => False
theorem za27 (t : Nat) (x : Operand) : tG Γ dr (.toBytes t x) 0 d K fr tk τ = tbK false t (tO fr x) d K fr tk τ := by
 simp only [tG,tOp,tbK]
 cases tO fr x <;> rfl
theorem za26 (t : Nat) (x : Operand) : tG Γ dr (.toBytes t x) 1 d K fr tk τ = tbK true t (tO fr x) d K fr tk τ := by
 simp only [tG,tOp,tbK]
 cases tO fr x <;> rfl
def tbA (t : Nat) (x : TV) (d : Option Nat) (K : aw) (fr : TF) (tk : TK) (τ : TH) : Prop := match x with | .str s => K (gc fr d (if s.size = 0 then .slb tk.length t else .sla tk.length (ce s))) (tk ++ [some (s.size,t)]) τ | _ => False
theorem za25 (t : Nat) (x : Operand) : tG Γ dr (.toBytes t x) 2 d K fr tk τ = tbA t (tO fr x) d K fr tk τ := by
 simp only [tG,tOp,tbA]
 cases tO fr x <;> rfl
theorem tbA_s (t : Nat) (s : ByteArray) : tbA t (.str s) d K fr tk τ = K (gc fr d (if s.size = 0 then .slb tk.length t else .sla tk.length (ce s))) (tk ++ [some (s.size,t)]) τ := rfl
theorem tbK_s (mu : Bool) (t : Nat) (s : ByteArray) : tbK mu t (.str s) d K fr tk τ = (bif mu then K (gc fr d (.slm τ.next 0 s.size 1)) tk (τ.push ⟨t,ce s⟩) else K (gc fr d (.sl (ce s))) tk τ) := rfl
theorem O_tmp (t : Nat) : tO fr (.tmp t) = lkp fr t := rfl
theorem O_cint (k : IntKind) (n : Int) : tO fr (.const (.int k n)) = .int k n := rfl
theorem O_cbool (c : Bool) : tO fr (.const (.bool c)) = .bool c := rfl
theorem O_cstr (s : ByteArray) : tO fr (.const (.string s)) = .str s := rfl
theorem O_cnilP : tO fr (.const (.pointer none)) = .nilP := rfl
theorem O_cnilS : tO fr (.const (.slice none 0 0)) = .slz := rfl
theorem O_cnilM : tO fr (.const (.map none)) = .nilM := rfl
theorem O_cnilF : tO fr (.const .nilFunc) = .nilF := rfl
theorem O_cnilI : tO fr (.const .nilIface) = .nilI := rfl
theorem O_func (f : FuncId) : tO fr (.func f) = .func f [] [] := rfl
theorem O_cagg (cs : List Value) : tO fr (.const (.agg cs.toArray)) = .agg (cs.map ofS) := rfl
theorem ofS_int (k : IntKind) (n : Int) : ofS (.int k n) = .int k n := rfl
theorem zbe4 (c : Bool) : ofS (.bool c) = .bool c := rfl
theorem ofS_str (s : ByteArray) : ofS (.string s) = .str s := rfl
theorem zbe0 : ofS (.pointer none) = .nilP := rfl
theorem zbez : ofS (.slice none 0 0) = .slz := rfl
theorem zbe1 : ofS (.map none) = .nilM := rfl
theorem zbe3 : ofS .nilFunc = .nilF := rfl
theorem zbe2 : ofS .nilIface = .nilI := rfl
theorem lkp_hit (t : Nat) (v : TV) (l : TF) : lkp ((t,v) :: l) t = v := by simp [lkp]
theorem zbfj (t k : Nat) (v : TV) (l : TF) (h : (t = k) = False) : lkp ((k,v) :: l) t = lkp l t := by simp [lkp,h]
theorem za5o (t : Nat) (v : TV) : gc fr (some t) v = (t,v) :: fr := rfl
theorem za5p (v : TV) : gc fr none v = fr := rfl
theorem sel_eq : sel lv fr = lv.map fun t => (t,lkp fr t) := rfl
theorem zbhq (k : Nat) : argF k [] = [] := rfl
theorem za9z (k : Nat) (v : TV) (l : List TV) : argF k (v :: l) = (k,v) :: argF (k + 1) l := rfl
end
theorem zazs   : TV.cells  TV.undef = [TV.undef ] := rfl
theorem za2v  (b : Bool) : TV.cells  (TV.bool b) = [TV.bool b] := rfl
theorem za80  (k : IntKind) (n : Int) : TV.cells  (TV.int k n) = [TV.int k n] := rfl
theorem za8t  (s : ByteArray) : TV.cells  (TV.str s) = [TV.str s] := rfl
theorem za2q   : TV.cells  TV.nilP = [TV.nilP ] := rfl
theorem za8z  (id off : Nat) : TV.cells  (TV.ptr id off) = [TV.ptr id off] := rfl
theorem za2p  (cs : List TV) (off : Nat) : TV.cells  (TV.rptr cs off) = [TV.rptr cs off] := rfl
theorem za8u   : TV.cells  TV.slz = [TV.slz ] := rfl
theorem zbgl  (l : List TV) : TV.cells  (TV.sl l) = [TV.sl l] := rfl
theorem za8y  (k : Nat) (l : List TV) : TV.cells  (TV.sla k l) = [TV.sla k l] := rfl
theorem za8x  (k : Nat) (t : TypeId) : TV.cells  (TV.slb k t) = [TV.slb k t] := rfl
theorem za8v  (t : TypeId) (l : List TV) : TV.cells  (TV.slo t l) = [TV.slo t l] := rfl
theorem za8w  (id off n sz : Nat) : TV.cells  (TV.slm id off n sz) = [TV.slm id off n sz] := rfl
theorem za2r   : TV.cells  TV.nilM = [TV.nilM ] := rfl
theorem za2t   : TV.cells  TV.nilF = [TV.nilF ] := rfl
theorem za2u  (f : FuncId) (a b : List TV) : TV.cells  (TV.func f a b) = [TV.func f a b] := rfl
theorem za2s   : TV.cells  TV.nilI = [TV.nilI ] := rfl
theorem za81  (cs : List TV) : TV.cells  (TV.agg cs) = cs := rfl
theorem za8s  (cs : List TV) : TV.cells  (TV.tup cs) = [TV.tup cs] := rfl
theorem za7c   : TV.one  TV.undef = false := rfl
theorem zbey  (b : Bool) : TV.one  (TV.bool b) = true := rfl
theorem one_int  (k : IntKind) (n : Int) : TV.one  (TV.int k n) = true := rfl
theorem one_str  (s : ByteArray) : TV.one  (TV.str s) = true := rfl
theorem zbet   : TV.one  TV.nilP = true := rfl
theorem one_ptr  (id off : Nat) : TV.one  (TV.ptr id off) = true := rfl
theorem zbes  (cs : List TV) (off : Nat) : TV.one  (TV.rptr cs off) = false := rfl
theorem one_slz   : TV.one  TV.slz = true := rfl
theorem one_sl  (l : List TV) : TV.one  (TV.sl l) = true := rfl
theorem one_sla  (k : Nat) (l : List TV) : TV.one  (TV.sla k l) = true := rfl
theorem one_slb  (k : Nat) (t : TypeId) : TV.one  (TV.slb k t) = true := rfl
theorem one_slo  (t : TypeId) (l : List TV) : TV.one  (TV.slo t l) = true := rfl
theorem one_slm  (id off n sz : Nat) : TV.one  (TV.slm id off n sz) = true := rfl
theorem zbeu   : TV.one  TV.nilM = true := rfl
theorem zbew   : TV.one  TV.nilF = true := rfl
theorem zbex  (f : FuncId) (a b : List TV) : TV.one  (TV.func f a b) = true := rfl
theorem zbev   : TV.one  TV.nilI = true := rfl
theorem one_agg  (cs : List TV) : TV.one  (TV.agg cs) = false := rfl
theorem one_tup  (cs : List TV) : TV.one  (TV.tup cs) = false := rfl
theorem zay6   : TV.known  TV.undef = false := rfl
theorem za2c  (b : Bool) : TV.known  (TV.bool b) = true := rfl
theorem za7s  (k : IntKind) (n : Int) : TV.known  (TV.int k n) = true := rfl
theorem za7l  (s : ByteArray) : TV.known  (TV.str s) = true := rfl
theorem za17   : TV.known  TV.nilP = true := rfl
theorem za7r  (id off : Nat) : TV.known  (TV.ptr id off) = true := rfl
theorem za16  (cs : List TV) (off : Nat) : TV.known  (TV.rptr cs off) = true := rfl
theorem za7m   : TV.known  TV.slz = true := rfl
theorem zbfv  (l : List TV) : TV.known  (TV.sl l) = true := rfl
theorem za7q  (k : Nat) (l : List TV) : TV.known  (TV.sla k l) = true := rfl
theorem za7p  (k : Nat) (t : TypeId) : TV.known  (TV.slb k t) = true := rfl
theorem za7n  (t : TypeId) (l : List TV) : TV.known  (TV.slo t l) = true := rfl
theorem za7o  (id off n sz : Nat) : TV.known  (TV.slm id off n sz) = true := rfl
theorem za18   : TV.known  TV.nilM = true := rfl
theorem za2a   : TV.known  TV.nilF = true := rfl
theorem za2b  (f : FuncId) (a b : List TV) : TV.known  (TV.func f a b) = true := rfl
theorem za19   : TV.known  TV.nilI = true := rfl
theorem za7t  (cs : List TV) : TV.known  (TV.agg cs) = true := rfl
theorem za7k  (cs : List TV) : TV.known  (TV.tup cs) = true := rfl
theorem za2z   : TV.canS  TV.undef = TV.undef  := rfl
theorem za9f  (b : Bool) : TV.canS  (TV.bool b) = TV.bool b := rfl
theorem zbg5  (k : IntKind) (n : Int) : TV.canS  (TV.int k n) = TV.int k n := rfl
theorem zbgy  (s : ByteArray) : TV.canS  (TV.str s) = TV.str s := rfl
theorem za9a   : TV.canS  TV.nilP = TV.nilP  := rfl
theorem zbg4  (id off : Nat) : TV.canS  (TV.ptr id off) = TV.ptr id off := rfl
theorem za89  (cs : List TV) (off : Nat) : TV.canS  (TV.rptr cs off) = TV.rptr cs off := rfl
theorem zbgz   : TV.canS  TV.slz = .sl [] := rfl
theorem canS_sl  (l : List TV) : TV.canS  (TV.sl l) = TV.sl l := rfl
theorem zbg3  (k : Nat) (l : List TV) : TV.canS  (TV.sla k l) = .sl l := rfl
theorem zbg2  (k : Nat) (t : TypeId) : TV.canS  (TV.slb k t) = .sl [] := rfl
theorem zbg0  (t : TypeId) (l : List TV) : TV.canS  (TV.slo t l) = TV.slo t l := rfl
theorem zbg1  (id off n sz : Nat) : TV.canS  (TV.slm id off n sz) = TV.slm id off n sz := rfl
theorem za9b   : TV.canS  TV.nilM = TV.nilM  := rfl
theorem za9d   : TV.canS  TV.nilF = TV.nilF  := rfl
theorem za9e  (f : FuncId) (a b : List TV) : TV.canS  (TV.func f a b) = TV.func f a b := rfl
theorem za9c   : TV.canS  TV.nilI = TV.nilI  := rfl
theorem zbg6  (cs : List TV) : TV.canS  (TV.agg cs) = TV.agg cs := rfl
theorem zbgx  (cs : List TV) : TV.canS  (TV.tup cs) = TV.tup cs := rfl
theorem za20   : TV.canA  TV.undef = TV.undef  := rfl
theorem za9m  (b : Bool) : TV.canA  (TV.bool b) = TV.bool b := rfl
theorem zbhf  (k : IntKind) (n : Int) : TV.canA  (TV.int k n) = TV.int k n := rfl
theorem zbg8  (s : ByteArray) : TV.canA  (TV.str s) = TV.str s := rfl
theorem za9h   : TV.canA  TV.nilP = TV.nilP  := rfl
theorem zbhe  (id off : Nat) : TV.canA  (TV.ptr id off) = TV.ptr id off := rfl
theorem za9g  (cs : List TV) (off : Nat) : TV.canA  (TV.rptr cs off) = TV.rptr cs off := rfl
theorem zbg9   : TV.canA  TV.slz = .sl [] := rfl
theorem canA_sl  (l : List TV) : TV.canA  (TV.sl l) = TV.sl l := rfl
theorem zbhd  (k : Nat) (l : List TV) : TV.canA  (TV.sla k l) = .sl l := rfl
theorem zbhc  (k : Nat) (t : TypeId) : TV.canA  (TV.slb k t) = .sl [] := rfl
theorem zbha  (t : TypeId) (l : List TV) : TV.canA  (TV.slo t l) = TV.slo t l := rfl
theorem zbhb  (id off n sz : Nat) : TV.canA  (TV.slm id off n sz) = TV.slm id off n sz := rfl
theorem za9i   : TV.canA  TV.nilM = TV.nilM  := rfl
theorem za9k   : TV.canA  TV.nilF = TV.nilF  := rfl
theorem za9l  (f : FuncId) (a b : List TV) : TV.canA  (TV.func f a b) = TV.func f a b := rfl
theorem za9j   : TV.canA  TV.nilI = TV.nilI  := rfl
theorem zbhg  (cs : List TV) : TV.canA  (TV.agg cs) = .agg (cs.map TV.canS) := rfl
theorem zbg7  (cs : List TV) : TV.canA  (TV.tup cs) = TV.tup cs := rfl
theorem za2y   : TV.canT  TV.undef = TV.undef  := rfl
theorem za88  (b : Bool) : TV.canT  (TV.bool b) = TV.bool b := rfl
theorem zbgv  (k : IntKind) (n : Int) : TV.canT  (TV.int k n) = TV.int k n := rfl
theorem zbgo  (s : ByteArray) : TV.canT  (TV.str s) = TV.str s := rfl
theorem za83   : TV.canT  TV.nilP = TV.nilP  := rfl
theorem zbgu  (id off : Nat) : TV.canT  (TV.ptr id off) = TV.ptr id off := rfl
theorem za82  (cs : List TV) (off : Nat) : TV.canT  (TV.rptr cs off) = TV.rptr cs off := rfl
theorem zbgp   : TV.canT  TV.slz = .sl [] := rfl
theorem canT_sl  (l : List TV) : TV.canT  (TV.sl l) = TV.sl l := rfl
theorem zbgt  (k : Nat) (l : List TV) : TV.canT  (TV.sla k l) = .sl l := rfl
theorem zbgs  (k : Nat) (t : TypeId) : TV.canT  (TV.slb k t) = .sl [] := rfl
theorem zbgq  (t : TypeId) (l : List TV) : TV.canT  (TV.slo t l) = TV.slo t l := rfl
theorem zbgr  (id off n sz : Nat) : TV.canT  (TV.slm id off n sz) = TV.slm id off n sz := rfl
theorem za84   : TV.canT  TV.nilM = TV.nilM  := rfl
theorem za86   : TV.canT  TV.nilF = TV.nilF  := rfl
theorem za87  (f : FuncId) (a b : List TV) : TV.canT  (TV.func f a b) = TV.func f a b := rfl
theorem za85   : TV.canT  TV.nilI = TV.nilI  := rfl
theorem zbgw  (cs : List TV) : TV.canT  (TV.agg cs) = .agg (cs.map TV.canS) := rfl
theorem zbgn  (cs : List TV) : TV.canT  (TV.tup cs) = .tup (cs.map TV.canA) := rfl
theorem za1x   : TV.part  TV.undef = TV.undef  := rfl
theorem za7b  (b : Bool) : TV.part  (TV.bool b) = TV.bool b := rfl
theorem zbel  (k : IntKind) (n : Int) : TV.part  (TV.int k n) = TV.int k n := rfl
theorem zbee  (s : ByteArray) : TV.part  (TV.str s) = TV.str s := rfl
theorem za65   : TV.part  TV.nilP = TV.nilP  := rfl
theorem zbek  (id off : Nat) : TV.part  (TV.ptr id off) = TV.ptr id off := rfl
theorem za64  (cs : List TV) (off : Nat) : TV.part  (TV.rptr cs off) = TV.rptr cs off := rfl
theorem zbef   : TV.part  TV.slz = TV.slz  := rfl
theorem part_sl  (l : List TV) : TV.part  (TV.sl l) = TV.sl l := rfl
theorem zbej  (k : Nat) (l : List TV) : TV.part  (TV.sla k l) = .sl l := rfl
theorem zbei  (k : Nat) (t : TypeId) : TV.part  (TV.slb k t) = .sl [] := rfl
theorem zbeg  (t : TypeId) (l : List TV) : TV.part  (TV.slo t l) = TV.slo t l := rfl
theorem zbeh  (id off n sz : Nat) : TV.part  (TV.slm id off n sz) = TV.slm id off n sz := rfl
theorem za66   : TV.part  TV.nilM = TV.nilM  := rfl
theorem za68   : TV.part  TV.nilF = TV.nilF  := rfl
theorem za69  (f : FuncId) (a b : List TV) : TV.part  (TV.func f a b) = TV.func f a b := rfl
theorem za67   : TV.part  TV.nilI = TV.nilI  := rfl
theorem zbem  (cs : List TV) : TV.part  (TV.agg cs) = TV.agg cs := rfl
theorem zbed  (cs : List TV) : TV.part  (TV.tup cs) = TV.tup cs := rfl
theorem za6k   : TV.put  TV.undef = TV.undef  := rfl
theorem zbdz  (b : Bool) : TV.put  (TV.bool b) = TV.bool b := rfl
theorem put_int  (k : IntKind) (n : Int) : TV.put  (TV.int k n) = TV.int k n := rfl
theorem put_str  (s : ByteArray) : TV.put  (TV.str s) = TV.str s := rfl
theorem zbdu   : TV.put  TV.nilP = TV.nilP  := rfl
theorem put_ptr  (id off : Nat) : TV.put  (TV.ptr id off) = TV.ptr id off := rfl
theorem zbdt  (cs : List TV) (off : Nat) : TV.put  (TV.rptr cs off) = TV.rptr cs off := rfl
theorem put_slz   : TV.put  TV.slz = TV.slz  := rfl
theorem put_sl  (l : List TV) : TV.put  (TV.sl l) = TV.sl l := rfl
theorem put_sla  (k : Nat) (l : List TV) : TV.put  (TV.sla k l) = .sl l := rfl
theorem put_slb  (k : Nat) (t : TypeId) : TV.put  (TV.slb k t) = .sl [] := rfl
theorem put_slo  (t : TypeId) (l : List TV) : TV.put  (TV.slo t l) = TV.slo t l := rfl
theorem put_slm  (id off n sz : Nat) : TV.put  (TV.slm id off n sz) = TV.slm id off n sz := rfl
theorem zbdv   : TV.put  TV.nilM = TV.nilM  := rfl
theorem zbdx   : TV.put  TV.nilF = TV.nilF  := rfl
theorem zbdy  (f : FuncId) (a b : List TV) : TV.put  (TV.func f a b) = TV.func f a b := rfl
theorem zbdw   : TV.put  TV.nilI = TV.nilI  := rfl
theorem put_agg  (cs : List TV) : TV.put  (TV.agg cs) = TV.agg cs := rfl
theorem put_tup  (cs : List TV) : TV.put  (TV.tup cs) = TV.tup cs := rfl
theorem zbdr   : TV.rd  TV.undef = TV.undef  := rfl
theorem rd_bool  (b : Bool) : TV.rd  (TV.bool b) = TV.bool b := rfl
theorem rd_int  (k : IntKind) (n : Int) : TV.rd  (TV.int k n) = TV.int k n := rfl
theorem rd_str  (s : ByteArray) : TV.rd  (TV.str s) = TV.str s := rfl
theorem rd_nilP   : TV.rd  TV.nilP = TV.nilP  := rfl
theorem rd_ptr  (id off : Nat) : TV.rd  (TV.ptr id off) = TV.ptr id off := rfl
theorem rd_rptr  (cs : List TV) (off : Nat) : TV.rd  (TV.rptr cs off) = TV.rptr cs off := rfl
theorem rd_slz   : TV.rd  TV.slz = TV.slz  := rfl
theorem rd_sl  (l : List TV) : TV.rd  (TV.sl l) = TV.sl l := rfl
theorem rd_sla  (k : Nat) (l : List TV) : TV.rd  (TV.sla k l) = TV.sla k l := rfl
theorem rd_slb  (k : Nat) (t : TypeId) : TV.rd  (TV.slb k t) = TV.slb k t := rfl
theorem rd_slo  (t : TypeId) (l : List TV) : TV.rd  (TV.slo t l) = .sl l := rfl
theorem rd_slm  (id off n sz : Nat) : TV.rd  (TV.slm id off n sz) = TV.slm id off n sz := rfl
theorem rd_nilM   : TV.rd  TV.nilM = TV.nilM  := rfl
theorem rd_nilF   : TV.rd  TV.nilF = TV.nilF  := rfl
theorem rd_func  (f : FuncId) (a b : List TV) : TV.rd  (TV.func f a b) = TV.func f a b := rfl
theorem rd_nilI   : TV.rd  TV.nilI = TV.nilI  := rfl
theorem rd_agg  (cs : List TV) : TV.rd  (TV.agg cs) = TV.agg cs := rfl
theorem rd_tup  (cs : List TV) : TV.rd  (TV.tup cs) = TV.tup cs := rfl
theorem zbfl   : TV.list  TV.slz = some [] := rfl
theorem list_sl  (l : List TV) : TV.list  (TV.sl l) = some l := rfl
theorem zbfm  (k : Nat) (l : List TV) : TV.list  (TV.sla k l) = some l := rfl
theorem zayj   : TV.pureS  TV.undef = false := rfl
theorem za1w  (b : Bool) : TV.pureS  (TV.bool b) = true := rfl
theorem za6z  (k : IntKind) (n : Int) : TV.pureS  (TV.int k n) = true := rfl
theorem za6s  (s : ByteArray) : TV.pureS  (TV.str s) = true := rfl
theorem za1s   : TV.pureS  TV.nilP = true := rfl
theorem za6y  (id off : Nat) : TV.pureS  (TV.ptr id off) = false := rfl
theorem za1r  (cs : List TV) (off : Nat) : TV.pureS  (TV.rptr cs off) = false := rfl
theorem za6t   : TV.pureS  TV.slz = false := rfl
theorem zbea  (l : List TV) : TV.pureS  (TV.sl l) = true := rfl
theorem za6x  (k : Nat) (l : List TV) : TV.pureS  (TV.sla k l) = false := rfl
theorem za6w  (k : Nat) (t : TypeId) : TV.pureS  (TV.slb k t) = false := rfl
theorem za6u  (t : TypeId) (l : List TV) : TV.pureS  (TV.slo t l) = false := rfl
theorem za6v  (id off n sz : Nat) : TV.pureS  (TV.slm id off n sz) = false := rfl
theorem za1t   : TV.pureS  TV.nilM = true := rfl
theorem za1v   : TV.pureS  TV.nilF = true := rfl
theorem za1u   : TV.pureS  TV.nilI = true := rfl
theorem za60  (cs : List TV) : TV.pureS  (TV.agg cs) = false := rfl
theorem za6r  (cs : List TV) : TV.pureS  (TV.tup cs) = false := rfl
theorem zayk (f : FuncId) : TV.pureS (.func f [] []) = true := rfl
theorem za1q   : TV.pure  TV.undef = false := rfl
theorem za6q  (b : Bool) : TV.pure  (TV.bool b) = true := rfl
theorem zbd8  (k : IntKind) (n : Int) : TV.pure  (TV.int k n) = true := rfl
theorem zbd1  (s : ByteArray) : TV.pure  (TV.str s) = true := rfl
theorem za6m   : TV.pure  TV.nilP = true := rfl
theorem zbd7  (id off : Nat) : TV.pure  (TV.ptr id off) = false := rfl
theorem za6l  (cs : List TV) (off : Nat) : TV.pure  (TV.rptr cs off) = false := rfl
theorem zbd2   : TV.pure  TV.slz = false := rfl
theorem pure_sl  (l : List TV) : TV.pure  (TV.sl l) = true := rfl
theorem zbd6  (k : Nat) (l : List TV) : TV.pure  (TV.sla k l) = false := rfl
theorem zbd5  (k : Nat) (t : TypeId) : TV.pure  (TV.slb k t) = false := rfl
theorem zbd3  (t : TypeId) (l : List TV) : TV.pure  (TV.slo t l) = false := rfl
theorem zbd4  (id off n sz : Nat) : TV.pure  (TV.slm id off n sz) = false := rfl
theorem za6n   : TV.pure  TV.nilM = true := rfl
theorem za6p   : TV.pure  TV.nilF = true := rfl
theorem za6o   : TV.pure  TV.nilI = true := rfl
theorem zbd9  (cs : List TV) : TV.pure  (TV.agg cs) = cs.all TV.pureS := rfl
theorem zbd0  (cs : List TV) : TV.pure  (TV.tup cs) = false := rfl
theorem zaxi (n : Nat)  : TV.under n TV.undef = true := by simp [TV.under]
theorem zbfg (n m : Nat)  : TV.lt n m TV.undef = true := by simp [TV.lt]
theorem za1b (n : Nat) (b : Bool) : TV.under n (TV.bool b) = true := by simp [TV.under]
theorem lt_bool (n m : Nat) (b : Bool) : TV.lt n m (TV.bool b) = true := by simp [TV.lt]
theorem za5k (n : Nat) (k : IntKind) (q : Int) : TV.under n (TV.int k q) = true := by simp [TV.under]
theorem lt_int (n m : Nat) (k : IntKind) (q : Int) : TV.lt n m (TV.int k q) = true := by simp [TV.lt]
theorem za5d (n : Nat) (s : ByteArray) : TV.under n (TV.str s) = true := by simp [TV.under]
theorem lt_str (n m : Nat) (s : ByteArray) : TV.lt n m (TV.str s) = true := by simp [TV.lt]
theorem za06 (n : Nat)  : TV.under n TV.nilP = true := by simp [TV.under]
theorem lt_nilP (n m : Nat)  : TV.lt n m TV.nilP = true := by simp [TV.lt]
theorem za5j (n : Nat) (id off : Nat) : TV.under n (TV.ptr id off) = decide (id < n) := by simp [TV.under]
theorem lt_ptr (n m : Nat) (id off : Nat) : TV.lt n m (TV.ptr id off) = decide (id < n) := by simp [TV.lt]
theorem za05 (n : Nat) (cs : List TV) (off : Nat) : TV.under n (TV.rptr cs off) = true := by simp [TV.under]
theorem lt_rptr (n m : Nat) (cs : List TV) (off : Nat) : TV.lt n m (TV.rptr cs off) = true := by simp [TV.lt]
theorem za5e (n : Nat)  : TV.under n TV.slz = true := by simp [TV.under]
theorem lt_slz (n m : Nat)  : TV.lt n m TV.slz = true := by simp [TV.lt]
theorem zbco (n : Nat) (l : List TV) : TV.under n (TV.sl l) = true := by simp [TV.under]
theorem lt_sl (n m : Nat) (l : List TV) : TV.lt n m (TV.sl l) = true := by simp [TV.lt]
theorem za5i (n : Nat) (k : Nat) (l : List TV) : TV.under n (TV.sla k l) = false := by simp [TV.under]
theorem lt_sla (n m : Nat) (k : Nat) (l : List TV) : TV.lt n m (TV.sla k l) = decide (k < m) := by simp [TV.lt]
theorem za5h (n : Nat) (k : Nat) (t : TypeId) : TV.under n (TV.slb k t) = false := by simp [TV.under]
theorem lt_slb (n m : Nat) (k : Nat) (t : TypeId) : TV.lt n m (TV.slb k t) = decide (k < m) := by simp [TV.lt]
theorem za5f (n : Nat) (t : TypeId) (l : List TV) : TV.under n (TV.slo t l) = true := by simp [TV.under]
theorem lt_slo (n m : Nat) (t : TypeId) (l : List TV) : TV.lt n m (TV.slo t l) = true := by simp [TV.lt]
theorem za5g (n : Nat) (id off q sz : Nat) : TV.under n (TV.slm id off q sz) = decide (id < n) := by simp [TV.under]
theorem lt_slm (n m : Nat) (id off q sz : Nat) : TV.lt n m (TV.slm id off q sz) = decide (id < n) := by simp [TV.lt]
theorem za07 (n : Nat)  : TV.under n TV.nilM = true := by simp [TV.under]
theorem lt_nilM (n m : Nat)  : TV.lt n m TV.nilM = true := by simp [TV.lt]
theorem za09 (n : Nat)  : TV.under n TV.nilF = true := by simp [TV.under]
theorem lt_nilF (n m : Nat)  : TV.lt n m TV.nilF = true := by simp [TV.lt]
theorem za1a (n : Nat) (f : FuncId) (a b : List TV) : TV.under n (TV.func f a b) = (ju n a && ju n b) := by simp [TV.under]
theorem lt_func (n m : Nat) (f : FuncId) (a b : List TV) : TV.lt n m (TV.func f a b) = (ltL n m a && ltL n m b) := by simp [TV.lt]
theorem za08 (n : Nat)  : TV.under n TV.nilI = true := by simp [TV.under]
theorem lt_nilI (n m : Nat)  : TV.lt n m TV.nilI = true := by simp [TV.lt]
theorem za5l (n : Nat) (cs : List TV) : TV.under n (TV.agg cs) = ju n cs := by simp [TV.under]
theorem lt_agg (n m : Nat) (cs : List TV) : TV.lt n m (TV.agg cs) = ltL n m cs := by simp [TV.lt]
theorem za5c (n : Nat) (cs : List TV) : TV.under n (TV.tup cs) = ju n cs := by simp [TV.under]
theorem lt_tup (n m : Nat) (cs : List TV) : TV.lt n m (TV.tup cs) = ltL n m cs := by simp [TV.lt]
theorem za1c (n : Nat) : ju n [] = true := by simp [ju]
theorem zaxj (n : Nat) (v : TV) (l : List TV) : ju n (v :: l) = (v.under n && ju n l) := by simp [ju]
theorem ltL_nil (n m : Nat) : ltL n m [] = true := by simp [ltL]
theorem zbfh (n m : Nat) (v : TV) (l : List TV) : ltL n m (v :: l) = (v.lt n m && ltL n m l) := by simp [ltL]
theorem pb {Γ : FuncId → Option TG} {lv : List Nat} {a : TC} {Q : TEx → aw} {fr : TF} {tk : TK} {τ : TH} (h : ∀ LQ : TEx → aw,(∀ fr' tk' τ',LQ .normal fr' tk' τ' = blkK lv tk τ fr' tk' τ' (tW Γ (.loop lv a) Q)) → (LQ .ret = Q .ret) → (∀ id,LQ (.exit id) = Q (.exit id)) → tW Γ a LQ (sel lv fr) tk τ) : tW Γ (.loop lv a) Q fr tk τ := by
 rw [tW_loop]
 exact h _ (fun fr' tk' τ' => zba6 Γ fr' tk tk' τ τ' a lv Q) rfl fun _ => rfl
def gfind : List (Nat × TG) → FuncId → Option TG
 | [],_ => none
 | (k,g) :: r,f => if f = k then some g else gfind r f
def GOKL (P : Program) (l : List (Nat × TG)) : Prop := ∀ p ∈ l,match p.2 with
 | .code fn => ∃ H,uo P H p.1 = some (fn.n,fn.c.erase,fn.rs)
 | .prim g => ∀ args τ r τ',g args τ = some (r,τ') → za49 P p.1 args τ r τ'
theorem gok_nil {P : Program} : GOKL P [] := fun p hp => by simp at hp
theorem bk {P : Program} {H : List (Nat × DH)} {f n : Nat} {c : TC} {rs : List R} {fz : Bool} (h : uo P H f = some (n,c.erase,rs)) {l : List (Nat × TG)} (k : GOKL P l) : GOKL P ((f,.code ⟨n,c,rs,fz⟩) :: l) := fun p hp => by
 rcases List.mem_cons.1 hp with rfl | hp
 · exact ⟨H,h⟩
 · exact k p hp
theorem zatc {P : Program} {f : Nat} {g : List TV → TH → Option (TV × TH)} (h : ∀ args τ r τ',g args τ = some (r,τ') → za49 P f args τ r τ') {l : List (Nat × TG)} (k : GOKL P l) : GOKL P ((f,.prim g) :: l) := fun p hp => by
 rcases List.mem_cons.1 hp with rfl | hp
 · exact h
 · exact k p hp
theorem za76 : ∀ {l : List (Nat × TG)} {f : Nat} {g : TG},gfind l f = some g → (f,g) ∈ l
 | [],_,_,h => by cases h
 | (k,g) :: r,f,g',h => by
  simp only [gfind] at h
  split at h
  · rename_i e; injection h with h; subst e h; simp
  · exact List.mem_cons_of_mem _ (za76 h)
theorem gok_list {P : Program} {l : List (Nat × TG)} (h : GOKL P l) : GOK P (gfind l) := fun f => by
 cases hq : gfind l f with
 | none => trivial
 | some g =>
  have := h _ (za76 hq)
  cases g with
  | code fn => exact this
  | prim g => exact this
section
variable (τ : TH) (b c : Ob) (id k n : Nat)
def cellB (o : Option Ob) (off : Nat) : Option TV := match o with | some b => (b.cs[off]?).map TV.rd | none => none
def rowB (o : Option Ob) (off n : Nat) : Option (List TV) := match o with | some b => if off + n ≤ b.cs.length then some (((b.cs.drop off).take n).map TV.rd) else none | none => none
theorem zbcz (off : Nat) : za3k τ id off = cellB (τ.at id) off := by unfold za3k cellB; cases τ.at id <;> rfl
theorem trow_at (off : Nat) : za3f τ id off n = rowB (τ.at id) off n := by unfold za3f rowB; cases τ.at id <;> rfl
theorem za2w (t : TypeId) (cs : List TV) (off : Nat) : cellB (some ⟨t,cs⟩) off = (cs[off]?).map TV.rd := rfl
theorem za6d (t : TypeId) (cs : List TV) (off : Nat) : rowB (some ⟨t,cs⟩) off n = if off + n ≤ cs.length then some (((cs.drop off).take n).map TV.rd) else none := rfl
theorem za9x : (τ.push b).at τ.next = some b := zah8
theorem za21 (h : id = τ.next) : (τ.push b).at id = some b := by subst h; exact zah8
theorem za9w (h : id < τ.next) : (τ.push b).at id = τ.at id := zaeu h
theorem ap : (τ.push b).next = τ.next + 1 := gy
theorem ag : (τ.put id b).next = τ.next := bo
theorem next_lk : (τ.locked n).next = τ.next := rfl
theorem za0w : (τ.locked n).at id = τ.at id := rfl
theorem bb : (τ.push b).lock = τ.lock := rfl
theorem ak : (τ.put id b).lock = τ.lock := rfl
theorem lock_ct : (τ.cut n).lock = τ.lock := rfl
theorem lock_lk : (τ.locked n).lock = n := rfl
theorem at_pt (h : id < τ.next) : (τ.put id b).at id = some b := zabm h
theorem zbho (h : (k = id) = False) : (τ.put id b).at k = τ.at k := zaev (by simpa using h)
theorem zamt : (τ.put id b).put id c = τ.put id c := by simp [TH.put]
theorem za62 (h : id = τ.next) : (τ.push b).put id c = τ.push c := by subst h; simp [TH.put,TH.push,TH.next,List.set_append_right]
theorem za61 (h : id < τ.next) : (τ.push b).put id c = (τ.put id c).push b := by simp only [TH.put,TH.push,TH.next] at *; rw [List.set_append_left _ _ h]
theorem zbgh (h : n ≤ τ.next) : (τ.push b).cut n = τ.cut n := by simp only [TH.cut,TH.push,TH.next] at *; rw [List.take_append_of_le_length h]
theorem kd (h : τ.next ≤ n) : τ.cut n = τ := za4m h
theorem za2l : (τ.locked k).cut n = (τ.cut n).locked k := rfl
theorem zayi : (τ.locked k).push b = (τ.push b).locked k := rfl
theorem za1p : (τ.locked k).put id b = (τ.put id b).locked k := rfl
theorem zas8 : (τ.locked k).locked n = τ.locked n := rfl
theorem zay5 : τ.locked τ.lock = τ := rfl
end
section
variable (k : IntKind) (x y : Int) (s u : ByteArray)
theorem tb_add : zag3 .add (.int k x) (.int k y) = some (.int k (k.wrap (x + y))) := by simp [zag3,zaie,za0b,ofS]
theorem tb_sub : zag3 .sub (.int k x) (.int k y) = some (.int k (k.wrap (x - y))) := by simp [zag3,zaie,za0b,ofS]
theorem tb_mul : zag3 .mul (.int k x) (.int k y) = some (.int k (k.wrap (x * y))) := by simp [zag3,zaie,za0b,ofS]
theorem tb_and : zag3 .and (.int k x) (.int k y) = some (.int k (k.wrap (BitVec.ofInt k.bits x &&& BitVec.ofInt k.bits y).toNat)) := by simp [zag3,zaie,za0b,ofS]
theorem tb_or : zag3 .or (.int k x) (.int k y) = some (.int k (k.wrap (BitVec.ofInt k.bits x ||| BitVec.ofInt k.bits y).toNat)) := by simp [zag3,zaie,za0b,ofS]
theorem tb_xor : zag3 .xor (.int k x) (.int k y) = some (.int k (k.wrap (BitVec.ofInt k.bits x ^^^ BitVec.ofInt k.bits y).toNat)) := by simp [zag3,zaie,za0b,ofS]
theorem tb_lss : zag3 .lss (.int k x) (.int k y) = some (.bool (decide (x < y))) := by simp [zag3,zaie,za0b,ofS]
theorem tb_leq : zag3 .leq (.int k x) (.int k y) = some (.bool (decide (x ≤ y))) := by simp [zag3,zaie,za0b,ofS]
theorem tb_gtr : zag3 .gtr (.int k x) (.int k y) = some (.bool (decide (y < x))) := by simp [zag3,zaie,za0b,ofS]
theorem tb_geq : zag3 .geq (.int k x) (.int k y) = some (.bool (decide (y ≤ x))) := by simp [zag3,zaie,za0b,ofS]
theorem tb_eql : zag3 .eql (.int k x) (.int k y) = some (.bool (decide (x = y))) := by simp [zag3,zaie,za0b,ofS]; rfl
theorem tb_neq : zag3 .neq (.int k x) (.int k y) = some (.bool (decide (¬ x = y))) := by simp [zag3,zaie,za0b,ofS]; rfl
theorem tb_quo : zag3 .quo (.int k x) (.int k y) = if y = 0 then none else some (.int k (k.wrap (x.tdiv y))) := by simp [zag3,zaie,za0b,ofS]; split <;> simp [ofS]
theorem tb_rem : zag3 .rem (.int k x) (.int k y) = if y = 0 then none else some (.int k (x.tmod y)) := by simp [zag3,zaie,za0b,ofS]; split <;> simp [ofS]
theorem tb_shl (j : IntKind) : zag3 .shl (.int k x) (.int j y) = if y < 0 then none else some (.int k (k.wrap (x * 2 ^ (Nat.min y.toNat k.bits)))) := by simp [zag3,zaie,zaza,ofS]; split <;> simp [ofS]
theorem tb_shr (j : IntKind) : zag3 .shr (.int k x) (.int j y) = if y < 0 then none else some (.int k (x.fdiv (2 ^ (Nat.min y.toNat k.bits)))) := by simp [zag3,zaie,zaza,ofS]; split <;> simp [ofS]
theorem tb_cat : zag3 .add (.str s) (.str u) = if 9223372036854775807 < ((s.size + u.size : Nat) : Int) then none else some (.str (s ++ u)) := by
 have e : IntKind.i64.max = 9223372036854775807 := by decide
 simp only [zag3,sbin,e]
 split
 · rfl
 · rfl
theorem zaxs {s u : ByteArray} : s.toList = u.toList ↔ s = u := by
 constructor
 · intro h
   rw [ByteArray.toList_eq,ByteArray.toList_eq] at h
   cases s; cases u; simp_all
 · rintro rfl; rfl
theorem tb_seql : zag3 .eql (.str s) (.str u) = some (.bool (decide (s = u))) := by simp only [zag3,sbin,Option.map_some,ofS]; congr 2; by_cases h : s = u <;> simp [h,zaxs]
theorem tb_sneq : zag3 .neq (.str s) (.str u) = some (.bool (decide (¬ s = u))) := by simp only [zag3,sbin,Option.map_some,ofS]; congr 2; by_cases h : s = u <;> simp [h,zaxs]
theorem tu_not (b : Bool) : tun .not (.bool b) = some (.bool !b) := rfl
def notI (k : IntKind) (x : Int) : Int := k.wrap (BitVec.ofInt k.bits (if k.signed then -1 else k.max) ^^^ BitVec.ofInt k.bits x).toNat
theorem tu_xor : tun .xor (.int k x) = some (.int k (notI k x)) := rfl
theorem tu_neg : tun .neg (.int k x) = some (.int k (k.wrap (0 - x))) := rfl
end
theorem zay9 (c : Prop) [Decidable c] (v : TV) (d : Option Nat) (K : aw) (fr : TF) (tk : TK) (τ : TH) : pK (if c then none else some v) d K fr tk τ = (¬ c ∧ K (gc fr d v) tk τ) := by unfold pK; by_cases h : c <;> simp [h]
theorem lt_more {g n k : Nat} (h : g < n) : (g < n + k) = True := by simp; omega
theorem le_more {g n k : Nat} (h : g ≤ n) : (g ≤ n + k) = True := by simp; omega
theorem lt_self (n k : Nat) : (n < n + k) = (0 < k) := by simp
theorem lt_left (n j k : Nat) : (n + j < n + k) = (j < k) := by simp
theorem le_self (n k : Nat) : (n ≤ n + k) = True := by simp
theorem le_left (n j k : Nat) : (n + j ≤ n + k) = (j ≤ k) := by simp
theorem eq_left (n j k : Nat) : (n + j = n + k) = (j = k) := by simp
theorem zazk (n k : Nat) : (n = n + k) = (k = 0) := by simp
theorem zawa (n k : Nat) : (n + k = n) = (k = 0) := by simp
theorem zav6 (n : Nat) : (n < n) = False := by simp
theorem add_lit (n j k : Nat) : n + j + k = n + (j + k) := Nat.add_assoc n j k
theorem zbdb (i o j p : Nat) : TV.same (.ptr i o) (.ptr j p) = (i == j && o == p) := rfl
theorem zbdc (k j : IntKind) (n m : Int) : TV.same (.int k n) (.int j m) = (decide (k = j) && decide (n = m)) := rfl
theorem za56 (a b : Bool) : TV.same (.bool a) (.bool b) = (a == b) := rfl
theorem zbda (a b : ByteArray) : TV.same (.str a) (.str b) = decide (a = b) := rfl
theorem za55 (f g : FuncId) (a b c d : List TV) : TV.same (.func f a b) (.func g c d) = (decide (f = g) && (za0d a c && za0d b d)) := rfl
theorem za57 : za0d [] [] = true := rfl
theorem za1m (v w : TV) (r s : List TV) : za0d (v :: r) (w :: s) = (v.same w && za0d r s) := rfl
theorem za6f (fr : TF) (τ : TH) (d : Nat) (i : I) (g : Option (Nat × Bool)) : za3o ⟨some d,i,g⟩ fr τ = samO (zayh i fr τ) (lkp fr d) := rfl
theorem za6j (fr : TF) (τ : TH) (x : Operand) : zayh (.load1 x) fr τ = rdO (tO fr x) τ := rfl
theorem rdO_ptr (τ : TH) (id off : Nat) : rdO (.ptr id off) τ = rdB (τ.at id) off := rfl
theorem zbds (t : TypeId) (cs : List TV) (off : Nat) : rdB (some ⟨t,cs⟩) off = (cs[off]?).map TV.rd := rfl
theorem za58 (v w : TV) : samO (some v) w = v.same w := rfl
theorem zbgf : decide True = true := rfl
theorem zbgg : decide False = false := rfl
theorem TT0 : type_of% (ai (ai (ai (ai @W_skip @W_exit) (ai @W_ret @W_ops)) (ai (ai @W_drawp @W_seq) (ai @W_cond @W_block))) (ai (ai (ai @W_clean @cT_bool) (ai @thenT_n @thenT_r)) (ai (ai @thenT_e @zbhk) (ai @zbhl @za9v)))) := (ai (ai (ai (ai @W_skip @W_exit) (ai @W_ret @W_ops)) (ai (ai @W_drawp @W_seq) (ai @W_cond @W_block))) (ai (ai (ai @W_clean @cT_bool) (ai @thenT_n @thenT_r)) (ai (ai @thenT_e @zbhk) (ai @zbhl @za9v))))
theorem TT1 : type_of% (ai (ai (ai (ai @zbhj @zba6) (ai @loopT_r @loopT_e)) (ai (ai @blkK_eq @retT_r) (ai @retT_n @retT_zr))) (ai (ai (ai @retT_zn @zbf6) (ai @zbde @tres_1)) (ai (ai @tres_0 @tres_2) (ai @zau3 @zaqn)))) := (ai (ai (ai (ai @zbhj @zba6) (ai @loopT_r @loopT_e)) (ai (ai @blkK_eq @retT_r) (ai @retT_n @retT_zr))) (ai (ai (ai @retT_zn @zbf6) (ai @zbde @tres_1)) (ai (ai @tres_0 @tres_2) (ai @zau3 @zaqn))))
theorem TT2 : type_of% (ai (ai (ai (ai @za2m @zaxn) (ai @za1f @za1e)) (ai (ai @rd1_ptr @rdN_ptr) (ai @tL_nil @tL_none))) (ai (ai (ai @tL_some @tLD_nil) (ai @zbc3 @zbc2)) (ai (ai @gd_tt @gd_ff) (ai @gd_tf @gd_ft)))) := (ai (ai (ai (ai @za2m @zaxn) (ai @za1f @za1e)) (ai (ai @rd1_ptr @rdN_ptr) (ai @tL_nil @tL_none))) (ai (ai (ai @tL_some @tLD_nil) (ai @zbc3 @zbc2)) (ai (ai @gd_tt @gd_ff) (ai @gd_tf @gd_ft))))
theorem TT3 : type_of% (ai (ai (ai (ai @gd_tup @G_call) (ai @G_callB @zbcw)) (ai (ai @za5t @za5a) (ai @tfz_agg @zbcr))) (ai (ai (ai @za5s @tfz_int) (ai @zbcv @tfz_str)) (ai (ai @zbcs @tfz_sl) (ai @tfzS_sl @tfz_sla)))) := (ai (ai (ai (ai @gd_tup @G_call) (ai @G_callB @zbcw)) (ai (ai @za5t @za5a) (ai @tfz_agg @zbcr))) (ai (ai (ai @za5s @tfz_int) (ai @zbcv @tfz_str)) (ai (ai @zbcs @tfz_sl) (ai @tfzS_sl @tfz_sla))))
theorem TT4 : type_of% (ai (ai (ai (ai @zbcu @tfz_slz) (ai @zbct @tfz_slm)) (ai (ai @G_callW @G_callv) (ai @zbh2 @cv_func))) (ai (ai (ai @pK_some @pK_ite) (ai @zber @zba2)) (ai (ai @G_mov @G_mov3) (ai @G_mov1 @zbe9)))) := (ai (ai (ai (ai @zbcu @tfz_slz) (ai @zbct @tfz_slm)) (ai (ai @G_callW @G_callv) (ai @zbh2 @cv_func))) (ai (ai (ai @pK_some @pK_ite) (ai @zber @zba2)) (ai (ai @G_mov @G_mov3) (ai @G_mov1 @zbe9))))
theorem TT5 : type_of% (ai (ai (ai (ai @G_pick @pickO_b) (ai @G_load1 @ld1_ptr)) (ai (ai @zbfu @G_loadN) (ai @ldN_ptr @zbft))) (ai (ai (ai @zbhy @zbfa) (ai @za7e @za7f)) (ai (ai @G_bin @G_eqB) (ai @eqb_bb @G_isNil)))) := (ai (ai (ai (ai @G_pick @pickO_b) (ai @G_load1 @ld1_ptr)) (ai (ai @zbfu @G_loadN) (ai @ldN_ptr @zbft))) (ai (ai (ai @zbhy @zbfa) (ai @za7e @za7f)) (ai (ai @G_bin @G_eqB) (ai @eqb_bb @G_isNil))))
theorem TT6 : type_of% (ai (ai (ai (ai @zaxu @za1i) (ai @zaxt @za1g)) (ai (ai @za5q @za1h) (ai @zaxv @zaxw))) (ai (ai (ai @zaxx @G_un) (ai @G_conv @cnv_int)) (ai (ai @G_convS @zbgk) (ai @za0a @lfK_ptr)))) := (ai (ai (ai (ai @zaxu @za1i) (ai @zaxt @za1g)) (ai (ai @za5q @za1h) (ai @zaxv @zaxw))) (ai (ai (ai @zaxx @G_un) (ai @G_conv @cnv_int)) (ai (ai @G_convS @zbgk) (ai @za0a @lfK_ptr))))
theorem TT7 : type_of% (ai (ai (ai (ai @zbfp @zbdp) (ai @za6h @ren_ptr)) (ai (ai @za6g @zbdo) (ai @ren_int @ren_str))) (ai (ai (ai @zbdj @zbdi) (ai @ren_slz @ren_sl)) (ai (ai @ren_sla @ren_slb) (ai @ren_slo @ren_slm)))) := (ai (ai (ai (ai @zbfp @zbdp) (ai @za6h @ren_ptr)) (ai (ai @za6g @zbdo) (ai @ren_int @ren_str))) (ai (ai (ai @zbdj @zbdi) (ai @ren_slz @ren_sl)) (ai (ai @ren_sla @ren_slb) (ai @ren_slo @ren_slm))))
theorem TT8 : type_of% (ai (ai (ai (ai @zbdk @zbdm) (ai @zbdn @zbdl)) (ai (ai @ren_agg @ren_tup) (ai @fad_ptr @zbf8))) (ai (ai (ai @zbh1 @fl1_agg) (ai @zbh0 @flN_agg)) (ai (ai @za3a @ixP_ptr) (ai @zbfx @zbad)))) := (ai (ai (ai (ai @zbdk @zbdm) (ai @zbdn @zbdl)) (ai (ai @ren_agg @ren_tup) (ai @fad_ptr @zbf8))) (ai (ai (ai @zbh1 @fl1_agg) (ai @zbh0 @flN_agg)) (ai (ai @za3a @ixP_ptr) (ai @zbfx @zbad))))
theorem TT9 : type_of% (ai (ai (ai (ai @ixS_sl @ixS_sla) (ai @ixS_slm @za29)) (ai (ai @ixT_s @za28) (ai @slT_s @za99))) (ai (ai (ai @slS_sl @slS_sla) (ai @slS_slm @tb_nn)) (ai (ai @tb_ln @tb_nh) (ai @tb_lh @map_ite)))) := (ai (ai (ai (ai @ixS_sl @ixS_sla) (ai @ixS_slm @za29)) (ai (ai @ixT_s @za28) (ai @slT_s @za99))) (ai (ai (ai @slS_sl @slS_sla) (ai @slS_slm @tb_nn)) (ai (ai @tb_ln @tb_nh) (ai @tb_lh @map_ite))))
theorem TT10 : type_of% (ai (ai (ai (ai @G_lenS @lenT_s) (ai @G_lenL @zbfr)) (ai (ai @lenV_sl @zbfs) (ai @zbfq @G_min))) (ai (ai (ai @minT_i @G_max) (ai @maxT_i @zbhz)) (ai (ai @zbae @exT_t) (ai @G_build @za5u)))) := (ai (ai (ai (ai @G_lenS @lenT_s) (ai @G_lenL @zbfr)) (ai (ai @lenV_sl @zbfs) (ai @zbfq @G_min))) (ai (ai (ai @minT_i @G_max) (ai @maxT_i @zbhz)) (ai (ai @zbae @exT_t) (ai @G_build @za5u))))
theorem TT11 : type_of% (ai (ai (ai (ai @za1j @za3d) (ai @zaxm @G_toStr)) (ai (ai @zbav @za3l) (ai @zbc5 @zbc6))) (ai (ai (ai @za3b @ixA_a) (ai @zaz9 @ixAN_a)) (ai (ai @G_eqF @eqA_a) (ai @G_box @G_store)))) := (ai (ai (ai (ai @za1j @za3d) (ai @zaxm @G_toStr)) (ai (ai @zbav @za3l) (ai @zbc5 @zbc6))) (ai (ai (ai @za3b @ixA_a) (ai @zaz9 @ixAN_a)) (ai (ai @G_eqF @eqA_a) (ai @G_box @G_store))))
theorem TT12 : type_of% (ai (ai (ai (ai @stK_ptr @zbc9) (ai @G_load2 @tkK_ptr)) (ai (ai @zbcq @zbar) (ai @zbas @zbhx))) (ai (ai (ai @s2K_ptr @zbdd) (ai @zbaf @bsO_0)) (ai (ai @bsO_1 @bsO_2) (ai @za1k @zaxz)))) := (ai (ai (ai (ai @stK_ptr @zbc9) (ai @G_load2 @tkK_ptr)) (ai (ai @zbcq @zbar) (ai @zbas @zbhx))) (ai (ai (ai @s2K_ptr @zbdd) (ai @zbaf @bsO_0)) (ai (ai @bsO_1 @bsO_2) (ai @za1k @zaxz))))
theorem TT13 : type_of% (ai (ai (ai (ai @zbac @zbab) (ai @zbaa @msA_i)) (ai (ai @msK_i @zbh3) (ai @zbai @amK_slz))) (ai (ai (ai @amK_slm @zbht) (ai @zbah @atK_slm)) (ai (ai @zbhp @apK_slz) (ai @apK_sla @zbhr)))) := (ai (ai (ai (ai @zbac @zbab) (ai @zbaa @msA_i)) (ai (ai @msK_i @zbh3) (ai @zbai @amK_slz))) (ai (ai (ai @amK_slm @zbht) (ai @zbah @atK_slm)) (ai (ai @zbhp @apK_slz) (ai @apK_sla @zbhr))))
theorem TT14 : type_of% (ai (ai (ai (ai @apK_slb @zbhs) (ai @zbag @asK_s)) (ai (ai @za27 @za26) (ai @za25 @tbA_s))) (ai (ai (ai @tbK_s @O_tmp) (ai @O_cint @O_cbool)) (ai (ai @O_cstr @O_cnilP) (ai @O_cnilS @O_cnilM)))) := (ai (ai (ai (ai @apK_slb @zbhs) (ai @zbag @asK_s)) (ai (ai @za27 @za26) (ai @za25 @tbA_s))) (ai (ai (ai @tbK_s @O_tmp) (ai @O_cint @O_cbool)) (ai (ai @O_cstr @O_cnilP) (ai @O_cnilS @O_cnilM))))
theorem TT15 : type_of% (ai (ai (ai (ai @O_cnilF @O_cnilI) (ai @O_func @O_cagg)) (ai (ai @ofS_int @zbe4) (ai @ofS_str @zbe0))) (ai (ai (ai @zbez @zbe1) (ai @zbe3 @zbe2)) (ai (ai @lkp_hit @zbfj) (ai @za5o @za5p)))) := (ai (ai (ai (ai @O_cnilF @O_cnilI) (ai @O_func @O_cagg)) (ai (ai @ofS_int @zbe4) (ai @ofS_str @zbe0))) (ai (ai (ai @zbez @zbe1) (ai @zbe3 @zbe2)) (ai (ai @lkp_hit @zbfj) (ai @za5o @za5p))))
theorem TT16 : type_of% (ai (ai (ai (ai @sel_eq @zbhq) (ai @za9z @zazs)) (ai (ai @za2v @za80) (ai @za8t @za2q))) (ai (ai (ai @za8z @za2p) (ai @za8u @zbgl)) (ai (ai @za8y @za8x) (ai @za8v @za8w)))) := (ai (ai (ai (ai @sel_eq @zbhq) (ai @za9z @zazs)) (ai (ai @za2v @za80) (ai @za8t @za2q))) (ai (ai (ai @za8z @za2p) (ai @za8u @zbgl)) (ai (ai @za8y @za8x) (ai @za8v @za8w))))
theorem TT17 : type_of% (ai (ai (ai (ai @za2r @za2t) (ai @za2u @za2s)) (ai (ai @za81 @za8s) (ai @za7c @zbey))) (ai (ai (ai @one_int @one_str) (ai @zbet @one_ptr)) (ai (ai @zbes @one_slz) (ai @one_sl @one_sla)))) := (ai (ai (ai (ai @za2r @za2t) (ai @za2u @za2s)) (ai (ai @za81 @za8s) (ai @za7c @zbey))) (ai (ai (ai @one_int @one_str) (ai @zbet @one_ptr)) (ai (ai @zbes @one_slz) (ai @one_sl @one_sla))))
theorem TT18 : type_of% (ai (ai (ai (ai @one_slb @one_slo) (ai @one_slm @zbeu)) (ai (ai @zbew @zbex) (ai @zbev @one_agg))) (ai (ai (ai @one_tup @zay6) (ai @za2c @za7s)) (ai (ai @za7l @za17) (ai @za7r @za16)))) := (ai (ai (ai (ai @one_slb @one_slo) (ai @one_slm @zbeu)) (ai (ai @zbew @zbex) (ai @zbev @one_agg))) (ai (ai (ai @one_tup @zay6) (ai @za2c @za7s)) (ai (ai @za7l @za17) (ai @za7r @za16))))
theorem TT19 : type_of% (ai (ai (ai (ai @za7m @zbfv) (ai @za7q @za7p)) (ai (ai @za7n @za7o) (ai @za18 @za2a))) (ai (ai (ai @za2b @za19) (ai @za7t @za7k)) (ai (ai @za2z @za9f) (ai @zbg5 @zbgy)))) := (ai (ai (ai (ai @za7m @zbfv) (ai @za7q @za7p)) (ai (ai @za7n @za7o) (ai @za18 @za2a))) (ai (ai (ai @za2b @za19) (ai @za7t @za7k)) (ai (ai @za2z @za9f) (ai @zbg5 @zbgy))))
theorem TT20 : type_of% (ai (ai (ai (ai @za9a @zbg4) (ai @za89 @zbgz)) (ai (ai @canS_sl @zbg3) (ai @zbg2 @zbg0))) (ai (ai (ai @zbg1 @za9b) (ai @za9d @za9e)) (ai (ai @za9c @zbg6) (ai @zbgx @za20)))) := (ai (ai (ai (ai @za9a @zbg4) (ai @za89 @zbgz)) (ai (ai @canS_sl @zbg3) (ai @zbg2 @zbg0))) (ai (ai (ai @zbg1 @za9b) (ai @za9d @za9e)) (ai (ai @za9c @zbg6) (ai @zbgx @za20))))
theorem TT21 : type_of% (ai (ai (ai (ai @za9m @zbhf) (ai @zbg8 @za9h)) (ai (ai @zbhe @za9g) (ai @zbg9 @canA_sl))) (ai (ai (ai @zbhd @zbhc) (ai @zbha @zbhb)) (ai (ai @za9i @za9k) (ai @za9l @za9j)))) := (ai (ai (ai (ai @za9m @zbhf) (ai @zbg8 @za9h)) (ai (ai @zbhe @za9g) (ai @zbg9 @canA_sl))) (ai (ai (ai @zbhd @zbhc) (ai @zbha @zbhb)) (ai (ai @za9i @za9k) (ai @za9l @za9j))))
theorem TT22 : type_of% (ai (ai (ai (ai @zbhg @zbg7) (ai @za2y @za88)) (ai (ai @zbgv @zbgo) (ai @za83 @zbgu))) (ai (ai (ai @za82 @zbgp) (ai @canT_sl @zbgt)) (ai (ai @zbgs @zbgq) (ai @zbgr @za84)))) := (ai (ai (ai (ai @zbhg @zbg7) (ai @za2y @za88)) (ai (ai @zbgv @zbgo) (ai @za83 @zbgu))) (ai (ai (ai @za82 @zbgp) (ai @canT_sl @zbgt)) (ai (ai @zbgs @zbgq) (ai @zbgr @za84))))
theorem TT23 : type_of% (ai (ai (ai (ai @za86 @za87) (ai @za85 @zbgw)) (ai (ai @zbgn @za1x) (ai @za7b @zbel))) (ai (ai (ai @zbee @za65) (ai @zbek @za64)) (ai (ai @zbef @part_sl) (ai @zbej @zbei)))) := (ai (ai (ai (ai @za86 @za87) (ai @za85 @zbgw)) (ai (ai @zbgn @za1x) (ai @za7b @zbel))) (ai (ai (ai @zbee @za65) (ai @zbek @za64)) (ai (ai @zbef @part_sl) (ai @zbej @zbei))))
theorem TT24 : type_of% (ai (ai (ai (ai @zbeg @zbeh) (ai @za66 @za68)) (ai (ai @za69 @za67) (ai @zbem @zbed))) (ai (ai (ai @za6k @zbdz) (ai @put_int @put_str)) (ai (ai @zbdu @put_ptr) (ai @zbdt @put_slz)))) := (ai (ai (ai (ai @zbeg @zbeh) (ai @za66 @za68)) (ai (ai @za69 @za67) (ai @zbem @zbed))) (ai (ai (ai @za6k @zbdz) (ai @put_int @put_str)) (ai (ai @zbdu @put_ptr) (ai @zbdt @put_slz))))
theorem TT25 : type_of% (ai (ai (ai (ai @put_sl @put_sla) (ai @put_slb @put_slo)) (ai (ai @put_slm @zbdv) (ai @zbdx @zbdy))) (ai (ai (ai @zbdw @put_agg) (ai @put_tup @zbdr)) (ai (ai @rd_bool @rd_int) (ai @rd_str @rd_nilP)))) := (ai (ai (ai (ai @put_sl @put_sla) (ai @put_slb @put_slo)) (ai (ai @put_slm @zbdv) (ai @zbdx @zbdy))) (ai (ai (ai @zbdw @put_agg) (ai @put_tup @zbdr)) (ai (ai @rd_bool @rd_int) (ai @rd_str @rd_nilP))))
theorem TT26 : type_of% (ai (ai (ai (ai @rd_ptr @rd_rptr) (ai @rd_slz @rd_sl)) (ai (ai @rd_sla @rd_slb) (ai @rd_slo @rd_slm))) (ai (ai (ai @rd_nilM @rd_nilF) (ai @rd_func @rd_nilI)) (ai (ai @rd_agg @rd_tup) (ai @zbfl @list_sl)))) := (ai (ai (ai (ai @rd_ptr @rd_rptr) (ai @rd_slz @rd_sl)) (ai (ai @rd_sla @rd_slb) (ai @rd_slo @rd_slm))) (ai (ai (ai @rd_nilM @rd_nilF) (ai @rd_func @rd_nilI)) (ai (ai @rd_agg @rd_tup) (ai @zbfl @list_sl))))
theorem TT27 : type_of% (ai (ai (ai (ai @zbfm @zayj) (ai @za1w @za6z)) (ai (ai @za6s @za1s) (ai @za6y @za1r))) (ai (ai (ai @za6t @zbea) (ai @za6x @za6w)) (ai (ai @za6u @za6v) (ai @za1t @za1v)))) := (ai (ai (ai (ai @zbfm @zayj) (ai @za1w @za6z)) (ai (ai @za6s @za1s) (ai @za6y @za1r))) (ai (ai (ai @za6t @zbea) (ai @za6x @za6w)) (ai (ai @za6u @za6v) (ai @za1t @za1v))))
theorem TT28 : type_of% (ai (ai (ai (ai @za1u @za60) (ai @za6r @zayk)) (ai (ai @za1q @za6q) (ai @zbd8 @zbd1))) (ai (ai (ai @za6m @zbd7) (ai @za6l @zbd2)) (ai (ai @pure_sl @zbd6) (ai @zbd5 @zbd3)))) := (ai (ai (ai (ai @za1u @za60) (ai @za6r @zayk)) (ai (ai @za1q @za6q) (ai @zbd8 @zbd1))) (ai (ai (ai @za6m @zbd7) (ai @za6l @zbd2)) (ai (ai @pure_sl @zbd6) (ai @zbd5 @zbd3))))
theorem TT29 : type_of% (ai (ai (ai (ai @zbd4 @za6n) (ai @za6p @za6o)) (ai (ai @zbd9 @zbd0) (ai @zaxi @zbfg))) (ai (ai (ai @za1b @lt_bool) (ai @za5k @lt_int)) (ai (ai @za5d @lt_str) (ai @za06 @lt_nilP)))) := (ai (ai (ai (ai @zbd4 @za6n) (ai @za6p @za6o)) (ai (ai @zbd9 @zbd0) (ai @zaxi @zbfg))) (ai (ai (ai @za1b @lt_bool) (ai @za5k @lt_int)) (ai (ai @za5d @lt_str) (ai @za06 @lt_nilP))))
theorem TT30 : type_of% (ai (ai (ai (ai @za5j @lt_ptr) (ai @za05 @lt_rptr)) (ai (ai @za5e @lt_slz) (ai @zbco @lt_sl))) (ai (ai (ai @za5i @lt_sla) (ai @za5h @lt_slb)) (ai (ai @za5f @lt_slo) (ai @za5g @lt_slm)))) := (ai (ai (ai (ai @za5j @lt_ptr) (ai @za05 @lt_rptr)) (ai (ai @za5e @lt_slz) (ai @zbco @lt_sl))) (ai (ai (ai @za5i @lt_sla) (ai @za5h @lt_slb)) (ai (ai @za5f @lt_slo) (ai @za5g @lt_slm))))
theorem TT31 : type_of% (ai (ai (ai (ai @za07 @lt_nilM) (ai @za09 @lt_nilF)) (ai (ai @za1a @lt_func) (ai @za08 @lt_nilI))) (ai (ai (ai @za5l @lt_agg) (ai @za5c @lt_tup)) (ai (ai @za1c @zaxj) (ai @ltL_nil @zbfh)))) := (ai (ai (ai (ai @za07 @lt_nilM) (ai @za09 @lt_nilF)) (ai (ai @za1a @lt_func) (ai @za08 @lt_nilI))) (ai (ai (ai @za5l @lt_agg) (ai @za5c @lt_tup)) (ai (ai @za1c @zaxj) (ai @ltL_nil @zbfh))))
theorem TT32 : type_of% (ai (ai (ai (ai @zbcz @trow_at) (ai @za2w @za6d)) (ai (ai @za9x @za21) (ai @za9w @ap))) (ai (ai (ai @ag @next_lk) (ai @za0w @bb)) (ai (ai @ak @lock_ct) (ai @lock_lk @at_pt)))) := (ai (ai (ai (ai @zbcz @trow_at) (ai @za2w @za6d)) (ai (ai @za9x @za21) (ai @za9w @ap))) (ai (ai (ai @ag @next_lk) (ai @za0w @bb)) (ai (ai @ak @lock_ct) (ai @lock_lk @at_pt))))
theorem TT33 : type_of% (ai (ai (ai (ai @zbho @zamt) (ai @za62 @za61)) (ai (ai @zbgh @kd) (ai @za2l @zayi))) (ai (ai (ai @za1p @zas8) (ai @zay5 @tb_add)) (ai (ai @tb_sub @tb_mul) (ai @tb_and @tb_or)))) := (ai (ai (ai (ai @zbho @zamt) (ai @za62 @za61)) (ai (ai @zbgh @kd) (ai @za2l @zayi))) (ai (ai (ai @za1p @zas8) (ai @zay5 @tb_add)) (ai (ai @tb_sub @tb_mul) (ai @tb_and @tb_or))))
theorem TT34 : type_of% (ai (ai (ai (ai @tb_xor @tb_lss) (ai @tb_leq @tb_gtr)) (ai (ai @tb_geq @tb_eql) (ai @tb_neq @tb_quo))) (ai (ai (ai @tb_rem @tb_shl) (ai @tb_shr @tb_cat)) (ai (ai @tb_seql @tb_sneq) (ai @tu_not @tu_xor)))) := (ai (ai (ai (ai @tb_xor @tb_lss) (ai @tb_leq @tb_gtr)) (ai (ai @tb_geq @tb_eql) (ai @tb_neq @tb_quo))) (ai (ai (ai @tb_rem @tb_shl) (ai @tb_shr @tb_cat)) (ai (ai @tb_seql @tb_sneq) (ai @tu_not @tu_xor))))
theorem TT35 : type_of% (ai (ai (ai (ai @tu_neg @zay9) (ai @lt_more @le_more)) (ai (ai @lt_self @lt_left) (ai @le_self @le_left))) (ai (ai (ai @eq_left @zazk) (ai @zawa @zav6)) (ai (ai @add_lit @zbdb) (ai @zbdc @za56)))) := (ai (ai (ai (ai @tu_neg @zay9) (ai @lt_more @le_more)) (ai (ai @lt_self @lt_left) (ai @le_self @le_left))) (ai (ai (ai @eq_left @zazk) (ai @zawa @zav6)) (ai (ai @add_lit @zbdb) (ai @zbdc @za56))))
theorem TT36 : type_of% (ai (ai (ai (ai @zbda @za55) (ai @za57 @za1m)) (ai (ai @za6f @za6j) (ai @rdO_ptr @zbds))) (ai (ai (ai @za58 @zbgf) (ai @zbgg @List.map_cons.{0,0})) (ai (ai @List.map_nil.{0,0} @List.getD_cons_zero.{0}) (ai @List.getD_cons_succ.{0} @List.getElem?_cons_zero.{0})))) := (ai (ai (ai (ai @zbda @za55) (ai @za57 @za1m)) (ai (ai @za6f @za6j) (ai @rdO_ptr @zbds))) (ai (ai (ai @za58 @zbgf) (ai @zbgg @List.map_cons.{0,0})) (ai (ai @List.map_nil.{0,0} @List.getD_cons_zero.{0}) (ai @List.getD_cons_succ.{0} @List.getElem?_cons_zero.{0}))))
theorem TT37 : type_of% (ai (ai (ai (ai @List.getElem?_cons_succ.{0} @List.length_cons.{0}) (ai @List.length_nil.{0} @List.drop_succ_cons.{0})) (ai (ai @List.drop_zero.{0} @List.take_succ_cons.{0}) (ai @List.take_zero.{0} @List.take_nil.{0}))) (ai (ai (ai @List.take_length.{0} @List.set_cons_zero.{0}) (ai @List.set_cons_succ.{0} @Option.map_some.{0,0})) (ai (ai @Option.map_none.{0,0} @Option.bind_some.{0,0}) (ai @and_true @true_and)))) := (ai (ai (ai (ai @List.getElem?_cons_succ.{0} @List.length_cons.{0}) (ai @List.length_nil.{0} @List.drop_succ_cons.{0})) (ai (ai @List.drop_zero.{0} @List.take_succ_cons.{0}) (ai @List.take_zero.{0} @List.take_nil.{0}))) (ai (ai (ai @List.take_length.{0} @List.set_cons_zero.{0}) (ai @List.set_cons_succ.{0} @Option.map_some.{0,0})) (ai (ai @Option.map_none.{0,0} @Option.bind_some.{0,0}) (ai @and_true @true_and))))
theorem TT38 : type_of% (ai (ai (ai (ai @Bool.not_true @Bool.not_false) (ai @List.all_cons.{0} @List.all_nil.{0})) (ai (ai @Bool.and_true @Bool.true_and) (ai @Bool.and_self @not_false_eq_true))) (ai (ai (ai @Nat.zero_add @Nat.le_refl) (ai @Nat.add_zero @Nat.zero_mul)) (ai (ai @Nat.mul_one @Nat.one_mul) (ai @Int.toNat_zero @Int.toNat_natCast)))) := (ai (ai (ai (ai @Bool.not_true @Bool.not_false) (ai @List.all_cons.{0} @List.all_nil.{0})) (ai (ai @Bool.and_true @Bool.true_and) (ai @Bool.and_self @not_false_eq_true))) (ai (ai (ai @Nat.zero_add @Nat.le_refl) (ai @Nat.add_zero @Nat.zero_mul)) (ai (ai @Nat.mul_one @Nat.one_mul) (ai @Int.toNat_zero @Int.toNat_natCast))))
theorem TT39 : type_of% (ai (ai (ai (ai @List.nil_append.{0} @List.cons_append.{0}) (ai @List.append_nil.{0} @cond_true.{1})) (ai (ai @cond_false.{1} @if_true.{1}) (ai @if_false.{1} @List.length_map.{0,0}))) (ai (ai (ai @List.length_append.{0} @not_true_eq_false) (ai @decide_eq_true_eq @or_true)) (ai (ai @true_or @or_false) (ai @false_or @ne_eq.{1})))) := (ai (ai (ai (ai @List.nil_append.{0} @List.cons_append.{0}) (ai @List.append_nil.{0} @cond_true.{1})) (ai (ai @cond_false.{1} @if_true.{1}) (ai @if_false.{1} @List.length_map.{0,0}))) (ai (ai (ai @List.length_append.{0} @not_true_eq_false) (ai @decide_eq_true_eq @or_true)) (ai (ai @true_or @or_false) (ai @false_or @ne_eq.{1}))))
theorem TT40 : type_of% (ai @eq_self.{1} (ai @bne_self_eq_false.{0} @beq_self_eq_true.{0})) := (ai @eq_self.{1} (ai @bne_self_eq_false.{0} @beq_self_eq_true.{0}))
theorem TT : type_of% (ai (ai (ai (ai (ai @TT0 @TT1) (ai @TT2 (ai @TT3 @TT4))) (ai (ai @TT5 @TT6) (ai @TT7 (ai @TT8 @TT9)))) (ai (ai (ai @TT10 @TT11) (ai @TT12 (ai @TT13 @TT14))) (ai (ai @TT15 @TT16) (ai @TT17 (ai @TT18 @TT19))))) (ai (ai (ai (ai @TT20 @TT21) (ai @TT22 (ai @TT23 @TT24))) (ai (ai @TT25 @TT26) (ai @TT27 (ai @TT28 @TT29)))) (ai (ai (ai @TT30 @TT31) (ai @TT32 (ai @TT33 @TT34))) (ai (ai @TT35 (ai @TT36 @TT37)) (ai @TT38 (ai @TT39 @TT40)))))) := (ai (ai (ai (ai (ai @TT0 @TT1) (ai @TT2 (ai @TT3 @TT4))) (ai (ai @TT5 @TT6) (ai @TT7 (ai @TT8 @TT9)))) (ai (ai (ai @TT10 @TT11) (ai @TT12 (ai @TT13 @TT14))) (ai (ai @TT15 @TT16) (ai @TT17 (ai @TT18 @TT19))))) (ai (ai (ai (ai @TT20 @TT21) (ai @TT22 (ai @TT23 @TT24))) (ai (ai @TT25 @TT26) (ai @TT27 (ai @TT28 @TT29)))) (ai (ai (ai @TT30 @TT31) (ai @TT32 (ai @TT33 @TT34))) (ai (ai @TT35 (ai @TT36 @TT37)) (ai @TT38 (ai @TT39 @TT40))))))
end Go.Proofs.Ytdcfoaafkppojaa.Sh
