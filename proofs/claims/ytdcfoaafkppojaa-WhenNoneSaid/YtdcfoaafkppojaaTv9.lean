/- The tree level: evaluation, step by step: printed by a program of ours. -/
import Derived.Test.YtdcfoaafkppojaaTv8
set_option linter.unusedVariables false
set_option linter.unusedSimpArgs false
namespace Go.Proofs.Ytdcfoaafkppojaa.Sh
open Go Go.RowKit
def pK (o : Option TV) (d : Option Nat) (K : TCont) (fr : TF) (tk : TK) (τ : TH) : Prop := match o with | some v => K (tput fr d v) tk τ | none => False
def blkK (lv : List Nat) (tk : TK) (τ : TH) (fr' : TF) (tk' : TK) (τ' : TH) (K : TCont) : Prop := if ltL τ.next tk.length (lv.map fun t => lkp fr' t) = true then K (sel lv fr') (tk'.take tk.length) (τ'.cut τ.next) else K (sel lv fr') tk' τ'
def fzK (o : Option TV) (τ : TH) (K : TV → TH → Prop) (τ' : TH) : Prop := match o with | some u => K u (τ'.cut τ.next) | none => False
def rtK (o : Option TV) (τ : TH) (K : TV → TH → Prop) (τ' : TH) : Prop := match o with | some v => (if v.canT.under τ.next then K v.canT (τ'.cut τ.next) else v.canT.under τ'.next = true ∧ K v.canT τ') | none => False
def pl (l : List TIns) : List (TIns × List Nat) := l.map fun x => (x,[])
def tLD (Γ : FuncId → Option TG) : List TIns → TCont → TCont
  | [],K => K
  | ⟨⟨d,i,none⟩,m⟩ :: r,K => fun fr tk τ => tG Γ true i m d (tLD Γ r K) fr tk τ
  | ⟨⟨d,i,some (t,b)⟩,m⟩ :: r,K => fun fr tk τ => gdK Γ true (lkp fr t) b i m d (tLD Γ r K) fr tk τ
section
variable (Γ : FuncId → Option TG) (dr : Bool) (d : Option Nat) (K : TCont) (fr fr' : TF) (tk tk' : TK) (τ τ' : TH) (Q : TEx → TCont) (a b : TC) (lv : List Nat) (r : List TIns) (m : Nat)
theorem pn_nil (x : TIns) (k : Nat) (told : List (Nat × Ins)) (K : List (Nat × Ins) → TCont) : pnK x k fr τ told [] K = K (toldOf x k (tPre x.x.i x.m fr τ).1 (tPre x.x.i x.m fr τ).2 told) := by
  unfold pnK
  simp
theorem tD_pl : ∀ (l : List TIns) (n : Nat) (told : List (Nat × Ins)) (K : TCont),tD Γ n (pl l) K told = tLD Γ l K
  | [],n,told,K => rfl
  | ⟨⟨d,i,g⟩,m⟩ :: r,n,told,K => by
    funext fr tk τ
    cases g with
    | none =>
      show tG Γ true i m d (pnK _ n fr τ told [] (tD Γ (n + 1) (pl r) K)) fr tk τ = tG Γ true i m d (tLD Γ r K) fr tk τ
      rw [pn_nil,tD_pl r]
    | some tb =>
      obtain ⟨t,b⟩ := tb
      show gdK Γ true (lkp fr t) b i m d (pnK _ n fr τ told [] (tD Γ (n + 1) (pl r) K)) fr tk τ = gdK Γ true (lkp fr t) b i m d (tLD Γ r K) fr tk τ
      rw [pn_nil,tD_pl r]
theorem tPre_0 (i : I) : tPre i 0 fr τ = (fr,τ) := rfl
theorem tPre_1 (i : I) : tPre i 1 fr τ = (fr,τ) := rfl
theorem tPre_2 (i : I) : tPre i 2 fr τ = (fr,τ) := rfl
theorem W_skip : tW Γ .skip Q fr tk τ = Q .normal fr tk τ := tW_skip
theorem W_exit (id : Nat) : tW Γ (.exit id) Q fr tk τ = Q (.exit id) fr tk τ := tW_exit
theorem W_ret : tW Γ (.ret lv) Q fr tk τ = Q .ret (sel lv fr) tk τ := tW_ret
theorem W_ops : tW Γ (.ops r) Q fr tk τ = tL Γ r (Q .normal) fr tk τ := tW_ops
theorem W_drawp : tW Γ (.draw (pl r)) Q fr tk τ = tLD Γ r (Q .normal) fr tk τ := by rw [tW_draw,tD_pl]
theorem W_seq : tW Γ (.seq a b) Q fr tk τ = tW Γ a (thenT (tW Γ b Q) Q) fr tk τ := tW_seq
theorem W_cond (c : Operand) : tW Γ (.cond c a b) Q fr tk τ = cT Γ (tO fr c) a b Q fr tk τ := tW_cond
theorem W_block (id : Nat) : tW Γ (.block id lv a) Q fr tk τ = tW Γ a (blockT id lv tk τ Q) fr tk τ := tW_block
theorem W_clean : tW Γ (.clean lv a) Q fr tk τ = tW Γ a Q (sel lv fr) tk τ := tW_clean
theorem cT_bool (c : Bool) : cT Γ (.bool c) a b Q fr tk τ = if c = true then tW Γ a Q fr tk τ else tW Γ b Q fr tk τ := rfl
theorem thenT_n (n : TCont) : thenT n Q .normal = n := rfl
theorem thenT_r (n : TCont) : thenT n Q .ret = Q .ret := rfl
theorem thenT_e (n : TCont) (id : Nat) : thenT n Q (.exit id) = Q (.exit id) := rfl
theorem blockT_n (id : Nat) : blockT id lv tk τ Q .normal fr' tk' τ' = blkK lv tk τ fr' tk' τ' (Q .normal) := by unfold blockT blkK cleaned; simp only [true_or,if_true]; split <;> rfl
theorem blockT_e (id : Nat) : blockT id lv tk τ Q (.exit id) fr' tk' τ' = blkK lv tk τ fr' tk' τ' (Q .normal) := by unfold blockT blkK cleaned; simp only [or_true,if_true]; split <;> rfl
theorem blockT_ne (id j : Nat) (h : (j = id) = False) : blockT id lv tk τ Q (.exit j) = Q (.exit j) := by funext fr tk τ; unfold blockT; simp [h]
theorem blockT_r (id : Nat) : blockT id lv tk τ Q .ret = Q .ret := by funext fr tk τ; unfold blockT; simp
theorem loopT_n (Q : TEx → TCont) : loopT Γ lv a tk τ Q .normal fr' tk' τ' = blkK lv tk τ fr' tk' τ' (tW Γ (.loop lv a) Q) := by simp only [loopT,blkK,cleaned]; split <;> rfl
theorem loopT_r (Q : TEx → TCont) : loopT Γ lv a tk τ Q .ret = Q .ret := rfl
theorem loopT_e (Q : TEx → TCont) (id : Nat) : loopT Γ lv a tk τ Q (.exit id) = Q (.exit id) := rfl
theorem blkK_eq : blkK lv tk τ fr' tk' τ' K = if ltL τ.next tk.length (lv.map fun t => lkp fr' t) = true then K (sel lv fr') (tk'.take tk.length) (τ'.cut τ.next) else K (sel lv fr') tk' τ' := rfl
theorem retT_r (rs : List R) (K : TV → TH → Prop) : retT rs false τ K .ret fr tk τ' = rtK (tres rs fr τ') τ K τ' := by unfold retT rtK; cases tres rs fr τ' <;> simp
theorem retT_n (rs : List R) (K : TV → TH → Prop) : retT rs false τ K .normal fr tk τ' = rtK (tres rs fr τ') τ K τ' := by unfold retT rtK; cases tres rs fr τ' <;> simp
theorem retT_zr (rs : List R) (K : TV → TH → Prop) : retT rs true τ K .ret fr tk τ' = fzK ((tres rs fr τ').bind (tfz τ' τ.next)) τ K τ' := by unfold retT fzK; cases h : tres rs fr τ' with | none => simp | some v => simp only [Option.bind_some,or_true,true_and,if_true]; cases tfz τ' τ.next v <;> rfl
theorem retT_zn (rs : List R) (K : TV → TH → Prop) : retT rs true τ K .normal fr tk τ' = fzK ((tres rs fr τ').bind (tfz τ' τ.next)) τ K τ' := by unfold retT fzK; cases h : tres rs fr τ' with | none => simp | some v => simp only [Option.bind_some,true_or,true_and,if_true]; cases tfz τ' τ.next v <;> rfl
theorem fzK_some (v : TV) (K : TV → TH → Prop) : fzK (some v) τ K τ' = K v (τ'.cut τ.next) := rfl
theorem rtK_some (v : TV) (K : TV → TH → Prop) : rtK (some v) τ K τ' = if v.canT.under τ.next then K v.canT (τ'.cut τ.next) else v.canT.under τ'.next = true ∧ K v.canT τ' := rfl
theorem tres_1 (r : R) : tres [r] fr τ = tresOne fr τ r := rfl
theorem tres_0 : tres [] fr τ = some (.tup []) := rfl
theorem tres_2 (r1 r2 : R) (l : List R) : tres (r1 :: r2 :: l) fr τ = (tresList fr τ (r1 :: r2 :: l)).map .tup := rfl
def consO (a : Option TV) (b : Option (List TV)) : Option (List TV) := match a,b with | some x,some y => some (x :: y) | _,_ => none
theorem tresList_nil : tresList fr τ [] = some [] := rfl
theorem tresList_cons (r : R) (l : List R) : tresList fr τ (r :: l) = consO (tresOne fr τ r) (tresList fr τ l) := rfl
theorem consO_some (x : TV) (y : List TV) : consO (some x) (some y) = some (x :: y) := rfl
def ld1 (τ : TH) : TV → Option TV | .ptr id off => tcell τ id off | .rptr cs off => cs[off]? | _ => none
def ldN (n : Nat) (τ : TH) : TV → Option TV | .ptr id off => if n = 0 then none else (trow τ id off n).map .agg | .rptr cs off => if off + n ≤ cs.length then some (.agg ((cs.drop off).take n)) else none | _ => none
def rd1 (τ : TH) : TV → Option TV | .ptr id off => tcell τ id off | _ => none
def rdN (n : Nat) (τ : TH) : TV → Option TV | .ptr id off => if n = 0 then none else (trow τ id off n).map .agg | _ => none
theorem tresOne_tmp (t : Nat) : tresOne fr τ (.tmp t) = some (lkp fr t) := rfl
theorem tresOne_c1 (t : Nat) : tresOne fr τ (.cell1 t) = rd1 τ (lkp fr t) := rfl
theorem tresOne_cN (t n : Nat) : tresOne fr τ (.cellN t n) = rdN n τ (lkp fr t) := rfl
theorem rd1_ptr (id off : Nat) : rd1 τ (.ptr id off) = tcell τ id off := rfl
theorem rdN_ptr (n id off : Nat) : rdN n τ (.ptr id off) = if n = 0 then none else (trow τ id off n).map .agg := rfl
theorem tL_nil : tL Γ [] K = K := rfl
theorem tL_none (i : I) : tL Γ (⟨⟨d,i,none⟩,m⟩ :: r) K fr tk τ = tG Γ false i m d (tL Γ r K) fr tk τ := rfl
theorem tL_some (i : I) (t : Nat) (b : Bool) : tL Γ (⟨⟨d,i,some (t,b)⟩,m⟩ :: r) K fr tk τ = gdK Γ false (lkp fr t) b i m d (tL Γ r K) fr tk τ := rfl
theorem tLD_nil : tLD Γ [] K = K := rfl
theorem tLD_none (i : I) : tLD Γ (⟨⟨d,i,none⟩,m⟩ :: r) K fr tk τ = tG Γ true i m d (tLD Γ r K) fr tk τ := rfl
theorem tLD_some (i : I) (t : Nat) (b : Bool) : tLD Γ (⟨⟨d,i,some (t,b)⟩,m⟩ :: r) K fr tk τ = gdK Γ true (lkp fr t) b i m d (tLD Γ r K) fr tk τ := rfl
theorem gd_tt (i : I) : gdK Γ dr (.bool true) true i m d K fr tk τ = tG Γ dr i m d K fr tk τ := by simp [gdK]
theorem gd_ff (i : I) : gdK Γ dr (.bool false) false i m d K fr tk τ = tG Γ dr i m d K fr tk τ := by simp [gdK]
theorem gd_tf (i : I) : gdK Γ dr (.bool true) false i m d K fr tk τ = K (tput fr d (.tup [])) tk τ := by simp [gdK]
theorem gd_ft (i : I) : gdK Γ dr (.bool false) true i m d K fr tk τ = K (tput fr d (.tup [])) tk τ := by simp [gdK]
theorem gd_tup (i : I) (b : Bool) : gdK Γ dr (.tup []) b i m d K fr tk τ = K (tput fr d (.tup [])) tk τ := rfl
theorem gd_true (i : I) (c : Bool) : gdK Γ dr (.bool c) true i m d K fr tk τ = if c = true then tG Γ dr i m d K fr tk τ else K (tput fr d (.tup [])) tk τ := by cases c <;> simp [gdK]
theorem gd_false (i : I) (c : Bool) : gdK Γ dr (.bool c) false i m d K fr tk τ = if c = true then K (tput fr d (.tup [])) tk τ else tG Γ dr i m d K fr tk τ := by cases c <;> simp [gdK]
theorem G_call (f : FuncId) (args : List Operand) : tG Γ dr (.call f args) 0 d K fr tk τ = callK Γ dr f (args.map fun a => (tO fr a).canT) d K fr tk τ := rfl
theorem G_callB (f : FuncId) (args : List Operand) : tG Γ dr (.call f args) 1 d K fr tk τ = borK Γ f (tfzL (tfz τ 0) (args.map (tO fr))) d K fr tk τ := rfl
theorem borK_some (f : FuncId) (as : List TV) : borK Γ f (some as) d K fr tk τ = tC Γ f as ⟨[],0⟩ fun r _ => r.flat = true ∧ K (tput fr d r) tk τ := rfl
theorem tfzL_nil (f : TV → Option TV) : tfzL f [] = some [] := rfl
def zipO (a : Option TV) (b : Option (List TV)) : Option (List TV) := match a,b with | some x,some y => some (x :: y) | _,_ => none
theorem tfzL_cons (f : TV → Option TV) (v : TV) (l : List TV) : tfzL f (v :: l) = zipO (f v) (tfzL f l) := rfl
theorem zipO_some (v : TV) (l : List TV) : zipO (some v) (some l) = some (v :: l) := rfl
def plS (v : TV) : Option TV := if v.canS.pureS then some v.canS else none
theorem tfz_agg (n0 : Nat) (cs : List TV) : tfz τ n0 (.agg cs) = (tfzL (tfzS τ n0 2) cs).map .agg := rfl
theorem tfz_bool (n0 : Nat) (b : Bool) : tfz τ n0 (.bool b) = some (TV.bool b) := rfl
theorem tfzS_bool (n0 : Nat) (b : Bool) : tfzS τ n0 2 (.bool b) = some (TV.bool b) := rfl
theorem tfz_int (n0 : Nat) (k : IntKind) (n : Int) : tfz τ n0 (.int k n) = some (TV.int k n) := rfl
theorem tfzS_int (n0 : Nat) (k : IntKind) (n : Int) : tfzS τ n0 2 (.int k n) = some (TV.int k n) := rfl
theorem tfz_str (n0 : Nat) (s : ByteArray) : tfz τ n0 (.str s) = some (TV.str s) := rfl
theorem tfzS_str (n0 : Nat) (s : ByteArray) : tfzS τ n0 2 (.str s) = some (TV.str s) := rfl
theorem tfz_sl (n0 : Nat) (l : List TV) : tfz τ n0 (.sl l) = some (TV.sl l) := rfl
theorem tfzS_sl (n0 : Nat) (l : List TV) : tfzS τ n0 2 (.sl l) = some (TV.sl l) := rfl
theorem tfz_sla (n0 : Nat) (k : Nat) (l : List TV) : tfz τ n0 (.sla k l) = some (TV.sl l) := rfl
theorem tfzS_sla (n0 : Nat) (k : Nat) (l : List TV) : tfzS τ n0 2 (.sla k l) = some (TV.sl l) := rfl
theorem tfz_slz (n0 : Nat) : tfz τ n0 .slz = some (.sl []) := rfl
theorem tfzS_slz (n0 : Nat) : tfzS τ n0 2 .slz = some (.sl []) := rfl
theorem tfz_slm (n0 id off n sz : Nat) : tfz τ n0 (.slm id off n sz) = tfzS τ n0 2 (.slm id off n sz) := rfl
theorem G_callW (f : FuncId) (args : List Operand) : tG Γ dr (.callW f args) m d K fr tk τ = callK Γ false f (args.map fun a => (tO fr a).canT) d K fr tk τ := rfl
def cvK (Γ : FuncId → Option TG) (dr : Bool) (v : TV) (args : List TV) (d : Option Nat) (K : TCont) (fr : TF) (tk : TK) (τ : TH) : Prop := match v with | .func f a b => callK Γ dr f (a ++ args ++ b) d K fr tk τ | _ => False
theorem G_callv (x : Operand) (args : List Operand) : tG Γ dr (.callv x args) m d K fr tk τ = cvK Γ dr (tO fr x) (args.map fun a => (tO fr a).canT) d K fr tk τ := by unfold cvK; rfl
theorem G_callvW (x : Operand) (args : List Operand) : tG Γ dr (.callvW x args) m d K fr tk τ = cvK Γ false (tO fr x) (args.map fun a => (tO fr a).canT) d K fr tk τ := by unfold cvK; rfl
theorem cv_func (f : FuncId) (p q args : List TV) : cvK Γ dr (.func f p q) args d K fr tk τ = callK Γ dr f (p ++ args ++ q) d K fr tk τ := rfl
theorem pK_some (v : TV) : pK (some v) d K fr tk τ = K (tput fr d v) tk τ := rfl
theorem pK_ite (c : Prop) [Decidable c] (v : TV) : pK (if c then some v else none) d K fr tk τ = (c ∧ K (tput fr d v) tk τ) := by unfold pK; by_cases h : c <;> simp [h]
theorem opK_some (v : TV) : opK (some (v,tk',τ')) d K fr = K (tput fr d v) tk' τ' := rfl
theorem opK_ite (c : Prop) [Decidable c] (x : TV × TK × TH) : opK (if c then some x else none) d K fr = (c ∧ opK (some x) d K fr) := by unfold opK; by_cases h : c <;> simp [h]
theorem G_mov (x : Operand) : tG Γ dr (.mov x) 0 d K fr tk τ = K (tput fr d (tO fr x)) tk τ := rfl
theorem G_mov3 (x : Operand) : tG Γ dr (.mov x) 3 d K fr tk τ = K (tput fr d (tO fr x).canT) tk τ := rfl
def nilTok (v : TV) (d : Option Nat) (K : TCont) (fr : TF) (tk : TK) (τ : TH) : Prop := match v with | .slz => K (tput fr d (.sla tk.length [])) (tk ++ [some (0,0)]) τ | _ => False
theorem G_mov1 (x : Operand) : tG Γ dr (.mov x) 1 d K fr tk τ = nilTok (tO fr x) d K fr tk τ := by unfold nilTok; simp only [tG,tOp,if_true]; cases tO fr x <;> rfl
theorem nilTok_z : nilTok .slz d K fr tk τ = K (tput fr d (.sla tk.length [])) (tk ++ [some (0,0)]) τ := rfl
def pickO (c a b : TV) : Option TV := match c with | .bool t => some (bif t then a else b) | _ => none
theorem opK_map (o : Option TV) : opK (o.map fun v => (v,tk,τ)) d K fr = pK o d K fr tk τ := by cases o <;> rfl
theorem G_pick (c a b : Operand) : tG Γ dr (.pick c a b) m d K fr tk τ = pK (pickO (tO fr c) (tO fr a) (tO fr b)) d K fr tk τ := (opK_map d K fr tk τ (tP (.pick c a b) fr τ)).trans (by unfold pickO; rfl)
theorem pickO_b (t : Bool) (v w : TV) : pickO (.bool t) v w = some (bif t then v else w) := rfl
theorem G_load1 (x : Operand) : tG Γ dr (.load1 x) 0 d K fr tk τ = pK (ld1 τ (tO fr x)) d K fr tk τ := (opK_map d K fr tk τ (tP (.load1 x) fr τ)).trans (by unfold ld1; rfl)
theorem ld1_ptr (id off : Nat) : ld1 τ (.ptr id off) = tcell τ id off := rfl
theorem ld1_rptr (cs : List TV) (off : Nat) : ld1 τ (.rptr cs off) = cs[off]? := rfl
theorem G_loadN (n : Nat) (x : Operand) : tG Γ dr (.loadN n x) m d K fr tk τ = pK (ldN n τ (tO fr x)) d K fr tk τ := (opK_map d K fr tk τ (tP (.loadN n x) fr τ)).trans (by unfold ldN; rfl)
theorem ldN_ptr (n id off : Nat) : ldN n τ (.ptr id off) = if n = 0 then none else (trow τ id off n).map .agg := rfl
theorem ldN_rptr (n : Nat) (cs : List TV) (off : Nat) : ldN n τ (.rptr cs off) = if off + n ≤ cs.length then some (.agg ((cs.drop off).take n)) else none := rfl
def nchk : TV → Option TV | .ptr id off => some (.ptr id off) | .rptr cs off => some (.rptr cs off) | .func f a b => some (.func f a b) | _ => none
theorem G_nilchk (x : Operand) : tG Γ dr (.nilchk x) m d K fr tk τ = pK (nchk (tO fr x)) d K fr tk τ := (opK_map d K fr tk τ (tP (.nilchk x) fr τ)).trans (by unfold nchk; rfl)
theorem nchk_ptr (id off : Nat) : nchk (.ptr id off) = some (.ptr id off) := rfl
theorem nchk_rptr (cs : List TV) (off : Nat) : nchk (.rptr cs off) = some (.rptr cs off) := rfl
theorem nchk_func (f : FuncId) (p q : List TV) : nchk (.func f p q) = some (.func f p q) := rfl
theorem G_bin (op : BinOp) (x y : Operand) : tG Γ dr (.bin op x y) m d K fr tk τ = pK (tbin op (tO fr x) (tO fr y)) d K fr tk τ := (opK_map d K fr tk τ (tP (.bin op x y) fr τ)).trans (by rfl)
def eqb (neg : Bool) (p q : TV) : Option TV := match p,q with | .bool p,.bool q => some (.bool (bif neg then p != q else p == q)) | _,_ => none
theorem G_eqB (neg : Bool) (x y : Operand) : tG Γ dr (.eqB neg x y) m d K fr tk τ = pK (eqb neg (tO fr x) (tO fr y)) d K fr tk τ := (opK_map d K fr tk τ (tP (.eqB neg x y) fr τ)).trans (by unfold eqb; rfl)
theorem eqb_bb (neg p q : Bool) : eqb neg (.bool p) (.bool q) = some (.bool (bif neg then p != q else p == q)) := rfl
theorem G_isNil (k : NK) (neg : Bool) (x : Operand) : tG Γ dr (.isNil k neg x) m d K fr tk τ = pK ((tnil k (tO fr x)).map fun b => .bool (bif neg then !b else b)) d K fr tk τ := (opK_map d K fr tk τ (tP (.isNil k neg x) fr τ)).trans (by rfl)
theorem tnil_p_nilP  : tnil .p (.nilP) = some true := rfl
theorem tnil_p_ptr (i o : Nat) : tnil .p (.ptr i o) = some false := rfl
theorem tnil_p_rptr (c : List TV) (o : Nat) : tnil .p (.rptr c o) = some false := rfl
theorem tnil_s_slz  : tnil .s (.slz) = some true := rfl
theorem tnil_s_sl (v : TV) (l : List TV) : tnil .s (.sl (v :: l)) = some false := rfl
theorem tnil_s_slm (i o n s : Nat) : tnil .s (.slm i o n s) = some false := rfl
theorem tnil_m_nilM  : tnil .m (.nilM) = some true := rfl
theorem tnil_f_nilF  : tnil .f (.nilF) = some true := rfl
theorem tnil_f_func (f : FuncId) (p q : List TV) : tnil .f (.func f p q) = some false := rfl
theorem G_un (op : UnOp) (x : Operand) : tG Γ dr (.un op x) m d K fr tk τ = pK (tun op (tO fr x)) d K fr tk τ := (opK_map d K fr tk τ (tP (.un op x) fr τ)).trans (by rfl)
def cnv (k : IntKind) : TV → Option TV | .int _ n => some (.int k (k.wrap n)) | _ => none
theorem G_conv (k : IntKind) (x : Operand) : tG Γ dr (.conv k x) m d K fr tk τ = pK (cnv k (tO fr x)) d K fr tk τ := (opK_map d K fr tk τ (tP (.conv k x) fr τ)).trans (by unfold cnv; rfl)
theorem cnv_int (k j : IntKind) (n : Int) : cnv k (.int j n) = some (.int k (k.wrap n)) := rfl
def cnvS : TV → Option TV | .str s => some (.str s) | _ => none
theorem G_convS (x : Operand) : tG Γ dr (.convS x) m d K fr tk τ = pK (cnvS (tO fr x)) d K fr tk τ := (opK_map d K fr tk τ (tP (.convS x) fr τ)).trans (by unfold cnvS; rfl)
theorem cnvS_str (s : ByteArray) : cnvS (.str s) = some (.str s) := rfl
def fad (off : Nat) : TV → Option TV | .ptr id o => some (.ptr id (o + off)) | .rptr cs o => some (.rptr cs (o + off)) | _ => none
theorem G_fieldAddr (off : Nat) (x : Operand) : tG Γ dr (.fieldAddr off x) 0 d K fr tk τ = pK (fad off (tO fr x)) d K fr tk τ := (opK_map d K fr tk τ (tP (.fieldAddr off x) fr τ)).trans (by unfold fad; rfl)
def lfO (b : Option Ob) (id o off : Nat) (d : Option Nat) (K : TCont) (fr : TF) (tk : TK) (τ : TH) : Prop := match b with
  | some b => (τ.lock ≤ id ∧ b.cs ≠ []) ∧ K (tput (renF id τ.next fr) d (.ptr τ.next (o + off))) tk ((τ.put id ⟨b.t,[]⟩).push b)
  | none => False
def lfK (off : Nat) (v : TV) (d : Option Nat) (K : TCont) (fr : TF) (tk : TK) (τ : TH) : Prop := match v with | .ptr id o => lfO (τ.at id) id o off d K fr tk τ | _ => False
theorem tO_ren (id n : Nat) (fr : TF) (x : Operand) : tO (renF id n fr) x = ren id n (tO fr x) ∨ ∃ v,x = .const v := by
  cases x with
  | tmp t =>
    left
    induction fr with
    | nil => rfl
    | cons p r ih =>
      obtain ⟨k,v⟩ := p
      show lkp ((k,ren id n v) :: renF id n r) t = ren id n (lkp ((k,v) :: r) t)
      simp only [lkp]
      by_cases h : t = k
      · rw [if_pos h,if_pos h]
      · rw [if_neg h,if_neg h]; exact ih
  | const v => exact .inr ⟨v,rfl⟩
  | func f => left; rfl
  | global g => left; rfl
theorem G_lift (off : Nat) (t : Nat) (h : lfK off (lkp fr t) d K fr tk τ) : tG Γ dr (.fieldAddr off (.tmp t)) 9 d K fr tk τ := by
  unfold lfK at h
  split at h
  · rename_i id o hz
    have hz' : tO fr (.tmp t) = .ptr id o := hz
    unfold lfO at h
    split at h
    · rename_i b hb
      obtain ⟨hc,h⟩ := h
      have e : tPre (.fieldAddr off (.tmp t)) 9 fr τ = (renF id τ.next fr,(τ.put id ⟨b.t,[]⟩).push b) := by
        unfold tPre tLift
        rw [if_pos rfl]
        simp only [hz',hb]
        rw [if_pos hc]
      simp only [tG,e]
      have e2 : tO (renF id τ.next fr) (.tmp t) = .ptr τ.next o := by
        rcases tO_ren id τ.next fr (.tmp t) with e2 | ⟨v,e2⟩
        · rw [e2,hz']; simp [ren]
        · cases e2
      simp only [tOp,tP,e2]
      exact h
    · exact h.elim
  · exact h.elim
theorem lfK_ptr (off id o : Nat) : lfK off (.ptr id o) d K fr tk τ = lfO (τ.at id) id o off d K fr tk τ := rfl
theorem lfO_some (id o off : Nat) (t : TypeId) (cs : List TV) : lfO (some ⟨t,cs⟩) id o off d K fr tk τ = ((τ.lock ≤ id ∧ cs ≠ []) ∧ K (tput (renF id τ.next fr) d (.ptr τ.next (o + off))) tk ((τ.put id ⟨t,[]⟩).push ⟨t,cs⟩)) := rfl
theorem renF_nil (i n : Nat) : renF i n [] = [] := rfl
theorem renF_cons (i n k : Nat) (v : TV) (l : TF) : renF i n ((k,v) :: l) = (k,ren i n v) :: renF i n l := rfl
theorem ren_ptr (i n j o : Nat) : ren i n (.ptr j o) = if j = i then .ptr n o else .ptr j o := rfl
theorem ren_undef (i n : Nat)  : ren i n (TV.undef ) = TV.undef  := rfl
theorem ren_bool (i n : Nat) (b : Bool) : ren i n (TV.bool b) = TV.bool b := rfl
theorem ren_int (i n : Nat) (k : IntKind) (x : Int) : ren i n (TV.int k x) = TV.int k x := rfl
theorem ren_str (i n : Nat) (s : ByteArray) : ren i n (TV.str s) = TV.str s := rfl
theorem ren_nilP (i n : Nat)  : ren i n (TV.nilP ) = TV.nilP  := rfl
theorem ren_rptr (i n : Nat) (c : List TV) (o : Nat) : ren i n (TV.rptr c o) = TV.rptr c o := rfl
theorem ren_slz (i n : Nat)  : ren i n (TV.slz ) = TV.slz  := rfl
theorem ren_sl (i n : Nat) (l : List TV) : ren i n (TV.sl l) = TV.sl l := rfl
theorem ren_sla (i n : Nat) (k : Nat) (l : List TV) : ren i n (TV.sla k l) = TV.sla k l := rfl
theorem ren_slb (i n : Nat) (k : Nat) (t : TypeId) : ren i n (TV.slb k t) = TV.slb k t := rfl
theorem ren_slo (i n : Nat) (t : TypeId) (l : List TV) : ren i n (TV.slo t l) = TV.slo t l := rfl
theorem ren_slm (i n : Nat) (j o n0 s : Nat) : ren i n (TV.slm j o n0 s) = TV.slm j o n0 s := rfl
theorem ren_nilM (i n : Nat)  : ren i n (TV.nilM ) = TV.nilM  := rfl
theorem ren_nilF (i n : Nat)  : ren i n (TV.nilF ) = TV.nilF  := rfl
theorem ren_func (i n : Nat) (f : FuncId) (p q : List TV) : ren i n (TV.func f p q) = TV.func f p q := rfl
theorem ren_nilI (i n : Nat)  : ren i n (TV.nilI ) = TV.nilI  := rfl
theorem ren_agg (i n : Nat) (cs : List TV) : ren i n (TV.agg cs) = TV.agg cs := rfl
theorem ren_tup (i n : Nat) (cs : List TV) : ren i n (TV.tup cs) = TV.tup cs := rfl
theorem fad_ptr (off id o : Nat) : fad off (.ptr id o) = some (.ptr id (o + off)) := rfl
theorem fad_rptr (off : Nat) (cs : List TV) (o : Nat) : fad off (.rptr cs o) = some (.rptr cs (o + off)) := rfl
def fl1 (off : Nat) : TV → Option TV | .agg cs => cs[off]? | _ => none
theorem G_field1 (off : Nat) (x : Operand) : tG Γ dr (.field1 off x) m d K fr tk τ = pK (fl1 off (tO fr x)) d K fr tk τ := (opK_map d K fr tk τ (tP (.field1 off x) fr τ)).trans (by unfold fl1; rfl)
theorem fl1_agg (off : Nat) (cs : List TV) : fl1 off (.agg cs) = cs[off]? := rfl
def flN (off n : Nat) : TV → Option TV | .agg cs => if off + n ≤ cs.length then some (.agg ((cs.drop off).take n)) else none | _ => none
theorem G_fieldN (off n : Nat) (x : Operand) : tG Γ dr (.fieldN off n x) m d K fr tk τ = pK (flN off n (tO fr x)) d K fr tk τ := (opK_map d K fr tk τ (tP (.fieldN off n x) fr τ)).trans (by unfold flN; rfl)
theorem flN_agg (off n : Nat) (cs : List TV) : flN off n (.agg cs) = if off + n ≤ cs.length then some (.agg ((cs.drop off).take n)) else none := rfl
def ixP (len sz : Nat) (x i : TV) : Option TV := match x,i with
  | .ptr id o,.int _ n => if 0 ≤ n ∧ n < len then some (.ptr id (o + n.toNat * sz)) else none
  | .rptr cs o,.int _ n => if 0 ≤ n ∧ n < len then some (.rptr cs (o + n.toNat * sz)) else none
  | _,_ => none
theorem G_indexPtr (len sz : Nat) (x i : Operand) : tG Γ dr (.indexPtr len sz x i) m d K fr tk τ = pK (ixP len sz (tO fr x) (tO fr i)) d K fr tk τ := (opK_map d K fr tk τ (tP (.indexPtr len sz x i) fr τ)).trans (by unfold ixP; rfl)
theorem ixP_ptr (len sz id o : Nat) (k : IntKind) (n : Int) : ixP len sz (.ptr id o) (.int k n) = if 0 ≤ n ∧ n < len then some (.ptr id (o + n.toNat * sz)) else none := rfl
theorem ixP_rptr (len sz : Nat) (cs : List TV) (o : Nat) (k : IntKind) (n : Int) : ixP len sz (.rptr cs o) (.int k n) = if 0 ≤ n ∧ n < len then some (.rptr cs (o + n.toNat * sz)) else none := rfl
def ixS (sz : Nat) (x i : TV) : Option TV := match i with
  | .int _ n => (match x with
    | .slm id o len s => if 0 ≤ n ∧ n < len ∧ s = sz then some (.ptr id (o + n.toNat * sz)) else none
    | v => v.list.bind fun l => if 0 ≤ n ∧ n < l.length ∧ (l.getD n.toNat .undef).cells.length = sz then some (.rptr (l.getD n.toNat .undef).cells 0) else none)
  | _ => none
theorem G_indexSl (sz : Nat) (x i : Operand) : tG Γ dr (.indexSl sz x i) m d K fr tk τ = pK (ixS sz (tO fr x) (tO fr i)) d K fr tk τ := (opK_map d K fr tk τ (tP (.indexSl sz x i) fr τ)).trans (by unfold ixS; rfl)
theorem ixS_sl (sz : Nat) (l : List TV) (j : IntKind) (n : Int) : ixS sz (.sl l) (.int j n) = if 0 ≤ n ∧ n < l.length ∧ (l.getD n.toNat .undef).cells.length = sz then some (.rptr (l.getD n.toNat .undef).cells 0) else none := rfl
theorem ixS_sla (sz : Nat) (k : Nat) (l : List TV) (j : IntKind) (n : Int) : ixS sz (.sla k l) (.int j n) = if 0 ≤ n ∧ n < l.length ∧ (l.getD n.toNat .undef).cells.length = sz then some (.rptr (l.getD n.toNat .undef).cells 0) else none := rfl
theorem ixS_slm (sz id o len s : Nat) (j : IntKind) (n : Int) : ixS sz (.slm id o len s) (.int j n) = if 0 ≤ n ∧ n < len ∧ s = sz then some (.ptr id (o + n.toNat * sz)) else none := rfl
def ixT (x i : TV) : Option TV := match x,i with | .str s,.int _ n => if 0 ≤ n ∧ n < s.size then some (.int .u8 (s.data.getD n.toNat 0).toNat) else none | _,_ => none
theorem G_indexStr (x i : Operand) : tG Γ dr (.indexStr x i) m d K fr tk τ = pK (ixT (tO fr x) (tO fr i)) d K fr tk τ := (opK_map d K fr tk τ (tP (.indexStr x i) fr τ)).trans (by unfold ixT; rfl)
theorem ixT_s (s : ByteArray) (k : IntKind) (n : Int) : ixT (.str s) (.int k n) = if 0 ≤ n ∧ n < s.size then some (.int .u8 (s.data.getD n.toNat 0).toNat) else none := rfl
def slT (x : TV) (lo hi : Option TV) : Option TV := match x with | .str s => (tbounds s.size lo hi).map fun lh => .str (s.extract lh.1 lh.2) | _ => none
theorem G_sliceStr (x : Operand) (lo hi : Option Operand) : tG Γ dr (.sliceStr x lo hi) m d K fr tk τ = pK (slT (tO fr x) (lo.map (tO fr)) (hi.map (tO fr))) d K fr tk τ := (opK_map d K fr tk τ (tP (.sliceStr x lo hi) fr τ)).trans (by unfold slT; rfl)
theorem slT_s (s : ByteArray) (lo hi : Option TV) : slT (.str s) lo hi = (tbounds s.size lo hi).map fun lh => .str (s.extract lh.1 lh.2) := rfl
def slS (sz : Nat) (x : TV) (lo hi : Option TV) : Option TV := match x with
    | .slm id o len s => if s = sz then (tbounds len lo hi).map fun lh => .slm id (o + lh.1 * sz) (lh.2 - lh.1) sz else none
    | .sl l => if l.all (fun e => e.cells.length == sz) && !l.isEmpty then (tbounds l.length lo hi).map fun lh => .sl ((l.take lh.2).drop lh.1) else none
    | .sla _ l => if l.all (fun e => e.cells.length == sz) && !l.isEmpty then (tbounds l.length lo hi).map fun lh => .sl ((l.take lh.2).drop lh.1) else none
    | _ => none
theorem G_sliceSl (sz : Nat) (x : Operand) (lo hi : Option Operand) : tG Γ dr (.sliceSl sz x lo hi) m d K fr tk τ = pK (slS sz (tO fr x) (lo.map (tO fr)) (hi.map (tO fr))) d K fr tk τ := (opK_map d K fr tk τ (tP (.sliceSl sz x lo hi) fr τ)).trans (by unfold slS; rfl)
theorem slS_sl (sz : Nat) (l : List TV) (lo hi : Option TV) : slS sz (.sl l) lo hi = if l.all (fun e => e.cells.length == sz) && !l.isEmpty then (tbounds l.length lo hi).map fun lh => .sl ((l.take lh.2).drop lh.1) else none := rfl
theorem slS_sla (sz k : Nat) (l : List TV) (lo hi : Option TV) : slS sz (.sla k l) lo hi = if l.all (fun e => e.cells.length == sz) && !l.isEmpty then (tbounds l.length lo hi).map fun lh => .sl ((l.take lh.2).drop lh.1) else none := rfl
theorem slS_slm (sz id o len s : Nat) (lo hi : Option TV) : slS sz (.slm id o len s) lo hi = if s = sz then (tbounds len lo hi).map fun lh => .slm id (o + lh.1 * sz) (lh.2 - lh.1) sz else none := rfl
theorem tb_nn (n : Nat) : tbounds n none none = some (0,n) := rfl
theorem tb_ln (n : Nat) (k : IntKind) (l : Int) : tbounds n (some (.int k l)) none = if 0 ≤ l ∧ l ≤ n then some (l.toNat,n) else none := rfl
theorem tb_nh (n : Nat) (k : IntKind) (h : Int) : tbounds n none (some (.int k h)) = if 0 ≤ h ∧ h ≤ n then some (0,h.toNat) else none := by unfold tbounds tHi; by_cases c : 0 ≤ h ∧ h ≤ n <;> simp [c,tLo]
theorem tb_lh (n : Nat) (k j : IntKind) (l h : Int) : tbounds n (some (.int k l)) (some (.int j h)) = if (0 ≤ h ∧ h ≤ n) ∧ 0 ≤ l ∧ l ≤ h then some (l.toNat,h.toNat) else none := by
  unfold tbounds tHi
  by_cases c : 0 ≤ h ∧ h ≤ n
  · have e : ((h.toNat : Nat) : Int) = h := by omega
    simp only [c,and_self,if_true,Option.bind_some,tLo,e,true_and]
  · have c' : ¬ ((0 ≤ h ∧ h ≤ n) ∧ 0 ≤ l ∧ l ≤ h) := fun q => c q.1
    rw [if_neg c']
    simp [c]
theorem map_ite {α β : Type} (c : Prop) [Decidable c] (x : α) (f : α → β) : (if c then some x else none : Option α).map f = if c then some (f x) else none := by by_cases h : c <;> simp [h]
def lenT : TV → Option TV | .str s => some (.int .i64 s.size) | _ => none
theorem G_lenS (x : Operand) : tG Γ dr (.lenS x) m d K fr tk τ = pK (lenT (tO fr x)) d K fr tk τ := (opK_map d K fr tk τ (tP (.lenS x) fr τ)).trans (by unfold lenT; rfl)
theorem lenT_s (s : ByteArray) : lenT (.str s) = some (.int .i64 s.size) := rfl
def lenV : TV → Option TV | .slm _ _ n _ => some (.int .i64 n) | v => v.list.map fun l => .int .i64 l.length
theorem G_lenL (x : Operand) : tG Γ dr (.lenL x) m d K fr tk τ = pK (lenV (tO fr x)) d K fr tk τ := (opK_map d K fr tk τ (tP (.lenL x) fr τ)).trans (by unfold lenV; rfl)
theorem lenV_slm (id o n s : Nat) : lenV (.slm id o n s) = some (.int .i64 n) := rfl
theorem lenV_sl (l : List TV) : lenV (.sl l) = some (.int .i64 l.length) := rfl
theorem lenV_sla (k : Nat) (l : List TV) : lenV (.sla k l) = some (.int .i64 l.length) := rfl
theorem lenV_slz : lenV .slz = some (.int .i64 0) := rfl
def minT (x y : TV) : Option TV := match x,y with | .int k a,.int _ b => some (.int k (if b < a then b else a)) | _,_ => none
theorem G_min (x y : Operand) : tG Γ dr (.min x y) m d K fr tk τ = pK (minT (tO fr x) (tO fr y)) d K fr tk τ := (opK_map d K fr tk τ (tP (.min x y) fr τ)).trans (by unfold minT; rfl)
theorem minT_i (k j : IntKind) (a b : Int) : minT (.int k a) (.int j b) = some (.int k (if b < a then b else a)) := rfl
def maxT (x y : TV) : Option TV := match x,y with | .int k a,.int _ b => some (.int k (if a < b then b else a)) | _,_ => none
theorem G_max (x y : Operand) : tG Γ dr (.max x y) m d K fr tk τ = pK (maxT (tO fr x) (tO fr y)) d K fr tk τ := (opK_map d K fr tk τ (tP (.max x y) fr τ)).trans (by unfold maxT; rfl)
theorem maxT_i (k j : IntKind) (a b : Int) : maxT (.int k a) (.int j b) = some (.int k (if a < b then b else a)) := rfl
theorem G_mkFunc (f : FuncId) (first captured : List Operand) : tG Γ dr (.mkFunc (.func f) first captured) m d K fr tk τ = K (tput fr d (.func f (first.map fun x => (tO fr x).canS) (captured.map fun x => (tO fr x).canS))) tk τ := rfl
def exT (i : Nat) : TV → Option TV | .tup cs => cs[i]? | _ => none
theorem G_extract (x : Operand) (i : Nat) : tG Γ dr (.extract x i) m d K fr tk τ = pK (exT i (tO fr x)) d K fr tk τ := (opK_map d K fr tk τ (tP (.extract x i) fr τ)).trans (by unfold exT; rfl)
theorem exT_t (i : Nat) (cs : List TV) : exT i (.tup cs) = cs[i]? := rfl
theorem G_build (zero : List Value) (parts : List (Nat × Nat × Operand)) : tG Γ dr (.build zero parts) m d K fr tk τ = pK ((tfill (zero.map ofS) (parts.map fun p => (p.1,p.2.1,tO fr p.2.2))).map .agg) d K fr tk τ := (opK_map d K fr tk τ (tP (.build zero parts) fr τ)).trans (by rfl)
theorem tfill_nil (cs : List TV) : tfill cs [] = some cs := rfl
theorem tfill_cons (cs : List TV) (off size : Nat) (v : TV) (r : List (Nat × Nat × TV)) : tfill cs ((off,size,v) :: r) = if v.known = true ∧ v.cells.length = size ∧ off + size ≤ cs.length then tfill (tset cs off (v.cells.map TV.part)) r else none := rfl
theorem tset_nil (cs : List TV) (off : Nat) : tset cs off [] = cs := rfl
theorem tset_cons (cs : List TV) (off : Nat) (v : TV) (r : List TV) : tset cs off (v :: r) = tset (cs.set off v) (off + 1) r := rfl
def strO (τ : TH) : TV → Option TV | .slm id off n s => (if s = 1 then ((trow τ id off n).bind tbytes).map fun bs => .str ⟨bs.toArray⟩ else none) | v => (v.list.bind tbytes).map fun bs => .str ⟨bs.toArray⟩
theorem G_toStr (x : Operand) : tG Γ dr (.toStr x) m d K fr tk τ = pK (strO τ (tO fr x)) d K fr tk τ := (opK_map d K fr tk τ (tP (.toStr x) fr τ)).trans (by unfold strO; rfl)
theorem strO_sl (l : List TV) : strO τ (.sl l) = (tbytes l).map fun bs => .str ⟨bs.toArray⟩ := rfl
theorem strO_sla (k : Nat) (l : List TV) : strO τ (.sla k l) = (tbytes l).map fun bs => .str ⟨bs.toArray⟩ := rfl
theorem strO_slz : strO τ .slz = some (.str ⟨#[]⟩) := rfl
theorem strO_slm (id off n s : Nat) : strO τ (.slm id off n s) = if s = 1 then ((trow τ id off n).bind tbytes).map fun bs => .str ⟨bs.toArray⟩ else none := rfl
def ixA (len : Nat) (x i : TV) : Option TV := match x,i with | .agg cs,.int _ n => if 0 ≤ n ∧ n < len ∧ len ≤ cs.length then cs[n.toNat]? else none | _,_ => none
theorem G_indexAgg (len : Nat) (x i : Operand) : tG Γ dr (.indexAgg len x i) m d K fr tk τ = pK (ixA len (tO fr x) (tO fr i)) d K fr tk τ := (opK_map d K fr tk τ (tP (.indexAgg len x i) fr τ)).trans (by unfold ixA; rfl)
theorem ixA_a (len : Nat) (cs : List TV) (k : IntKind) (n : Int) : ixA len (.agg cs) (.int k n) = if 0 ≤ n ∧ n < len ∧ len ≤ cs.length then cs[n.toNat]? else none := rfl
def ixAN (len sz : Nat) (x i : TV) : Option TV := match x,i with | .agg cs,.int _ n => if 0 ≤ n ∧ n < len ∧ len * sz ≤ cs.length then some (.agg ((cs.drop (n.toNat * sz)).take sz)) else none | _,_ => none
theorem G_indexAggN (len sz : Nat) (x i : Operand) : tG Γ dr (.indexAggN len sz x i) m d K fr tk τ = pK (ixAN len sz (tO fr x) (tO fr i)) d K fr tk τ := (opK_map d K fr tk τ (tP (.indexAggN len sz x i) fr τ)).trans (by unfold ixAN; rfl)
theorem ixAN_a (len sz : Nat) (cs : List TV) (k : IntKind) (n : Int) : ixAN len sz (.agg cs) (.int k n) = if 0 ≤ n ∧ n < len ∧ len * sz ≤ cs.length then some (.agg ((cs.drop (n.toNat * sz)).take sz)) else none := rfl
def eqA (neg : Bool) (ks : List FK) (x y : TV) : Option TV := match x,y with | .agg p,.agg q => (teqs ks p q).map fun b => .bool (bif neg then !b else b) | _,_ => none
theorem G_eqF (neg : Bool) (ks : List FK) (x y : Operand) : tG Γ dr (.eqF neg ks x y) m d K fr tk τ = pK (eqA neg ks (tO fr x) (tO fr y)) d K fr tk τ := (opK_map d K fr tk τ (tP (.eqF neg ks x y) fr τ)).trans (by unfold eqA; rfl)
theorem eqA_a (neg : Bool) (ks : List FK) (p q : List TV) : eqA neg ks (.agg p) (.agg q) = (teqs ks p q).map fun b => .bool (bif neg then !b else b) := rfl
theorem G_box (t n : Nat) (x : Operand) : tG Γ dr (.box t n x) m d K fr tk τ = (((tO fr x).cells.all TV.one = true ∧ underL τ.next ((tO fr x).cells.map TV.put) = true) ∧ K (tput fr d (.ptr τ.next 0)) tk (τ.push ⟨t,(tO fr x).cells.map TV.put⟩)) := opK_ite d K fr _ _
def stK (n : Nat) (a x : TV) (d : Option Nat) (K : TCont) (fr : TF) (tk : TK) (τ : TH) : Prop := match a with
  | .ptr id off => x.cells.length = n ∧ (match tstore τ id off (x.cells.map TV.put) with | some τ' => K (tput fr d (.tup [])) tk τ' | none => False)
  | _ => False
theorem G_store (n : Nat) (y x : Operand) : tG Γ dr (.store n y x) 0 d K fr tk τ = stK n (tO fr y) (tO fr x) d K fr tk τ := by
  have e0 : tPre (.store n y x) 0 fr τ = (fr,τ) := rfl
  simp only [tG,e0,tOp,stK]
  cases tO fr y with
  | ptr id off =>
    by_cases h : (tO fr x).cells.length = n
    · simp only [h,if_true,true_and,show (0 : Nat) = 2 ↔ False from by decide,if_false]
      cases tstore τ id off ((tO fr x).cells.map TV.put) <;> rfl
    · simp [h,opK]
  | _ => rfl
def stB (o : Option Ob) (id off : Nat) (vs : List TV) (d : Option Nat) (K : TCont) (fr : TF) (tk : TK) (τ : TH) : Prop := match o with
  | some b => (τ.lock ≤ id ∧ vs ≠ [] ∧ off + vs.length ≤ b.cs.length ∧ (vs.all TV.one = true) ∧ underL (id + 1) vs = true) ∧ K (tput fr d (.tup [])) tk (τ.put id ⟨b.t,tset b.cs off vs⟩)
  | none => False
theorem G_stlift (n t : Nat) (x : Operand) (id o : Nat) (T : TypeId) (cs : List TV) (hz : lkp fr t = .ptr id o) (hb : τ.at id = some ⟨T,cs⟩) (hc : τ.lock ≤ id ∧ cs ≠ []) (hx : ∀ v,x ≠ .const v)
    (h : stK n (.ptr τ.next o) (ren id τ.next (tO fr x)) d K (renF id τ.next fr) tk ((τ.put id ⟨T,[]⟩).push ⟨T,cs⟩)) : tG Γ dr (.store n (.tmp t) x) 9 d K fr tk τ := by
  have hz' : tO fr (.tmp t) = .ptr id o := hz
  have e : tPre (.store n (.tmp t) x) 9 fr τ = (renF id τ.next fr,(τ.put id ⟨T,[]⟩).push ⟨T,cs⟩) := by
    unfold tPre tLift
    rw [if_pos rfl]
    simp only [hz',hb]
    rw [if_pos hc]
  have e2 : tO (renF id τ.next fr) (.tmp t) = .ptr τ.next o := by
    rcases tO_ren id τ.next fr (.tmp t) with e2 | ⟨v,e2⟩
    · rw [e2,hz']; simp [ren]
    · cases e2
  have e3 : tO (renF id τ.next fr) x = ren id τ.next (tO fr x) := by
    rcases tO_ren id τ.next fr x with e3 | ⟨v,e3⟩
    · exact e3
    · exact absurd e3 (hx v)
  simp only [tG,e,tOp,e2,e3]
  unfold stK at h
  simp only at h
  rw [if_neg (by decide),if_pos h.1]
  have h2 := h.2
  revert h2
  cases tstore ((τ.put id ⟨T,[]⟩).push ⟨T,cs⟩) τ.next o ((ren id τ.next (tO fr x)).cells.map TV.put) <;> exact fun h => h
theorem stK_ptr (n id off : Nat) (x : TV) : stK n (.ptr id off) x d K fr tk τ = (x.cells.length = n ∧ stB (τ.at id) id off (x.cells.map TV.put) d K fr tk τ) := by
  simp only [stK,stB,tstore]
  cases τ.at id with
  | none => rfl
  | some b =>
    simp only [Option.bind_some]
    split
    · rename_i τ' h
      split at h
      · rename_i hc; injection h with h; subst h; simp only [hc,ne_eq,not_false_eq_true,and_self,true_and]
      · cases h
    · rename_i h
      split at h
      · cases h
      · rename_i hc; simp only [hc,false_and]
theorem stB_some (t : TypeId) (cs : List TV) (id off : Nat) (vs : List TV) : stB (some ⟨t,cs⟩) id off vs d K fr tk τ = ((τ.lock ≤ id ∧ vs ≠ [] ∧ off + vs.length ≤ cs.length ∧ (vs.all TV.one = true) ∧ underL (id + 1) vs = true) ∧ K (tput fr d (.tup [])) tk (τ.put id ⟨t,tset cs off vs⟩)) := rfl
def tkB (o : Option Ob) (id off : Nat) (d : Option Nat) (K : TCont) (fr : TF) (tk : TK) (τ : TH) : Prop := match o with
  | some b => (match b.cs[off]? with | some (.slo t l) => τ.lock ≤ id ∧ K (tput fr d (.sla tk.length l)) (tk ++ [some (l.length,t)]) (τ.put id ⟨b.t,b.cs.set off (.sl l)⟩) | some .slz => K (tput fr d (.sla tk.length [])) (tk ++ [some (0,0)]) τ | _ => False)
  | none => False
def tkK (x : TV) (d : Option Nat) (K : TCont) (fr : TF) (tk : TK) (τ : TH) : Prop := match x with | .ptr id off => tkB (τ.at id) id off d K fr tk τ | _ => False
def tkC (t : TypeId) (cs : List TV) (id off : Nat) (v : Option TV) (d : Option Nat) (K : TCont) (fr : TF) (tk : TK) (τ : TH) : Prop := match v with | some (.slo u l) => τ.lock ≤ id ∧ K (tput fr d (.sla tk.length l)) (tk ++ [some (l.length,u)]) (τ.put id ⟨t,cs.set off (.sl l)⟩) | some .slz => K (tput fr d (.sla tk.length [])) (tk ++ [some (0,0)]) τ | _ => False
theorem G_load2 (x : Operand) : tG Γ dr (.load1 x) 2 d K fr tk τ = tkK (tO fr x) d K fr tk τ := by
  simp only [tG,tOp,tkK,if_true]
  cases tO fr x with
  | ptr id off =>
    simp only [tkB]
    cases τ.at id with
    | none => rfl
    | some b =>
      simp only [Option.bind_some]
      cases hq : b.cs[off]? with
      | none => rfl
      | some v =>
        cases v with
        | slo t l => by_cases h : τ.lock ≤ id <;> simp [h,opK]
        | _ => rfl
  | _ => rfl
theorem tkK_ptr (id off : Nat) : tkK (.ptr id off) d K fr tk τ = tkB (τ.at id) id off d K fr tk τ := rfl
theorem tkB_some (t : TypeId) (cs : List TV) (id off : Nat) : tkB (some ⟨t,cs⟩) id off d K fr tk τ = tkC t cs id off cs[off]? d K fr tk τ := rfl
theorem tkC_slz (t : TypeId) (cs : List TV) (id off : Nat) : tkC t cs id off (some .slz) d K fr tk τ = K (tput fr d (.sla tk.length [])) (tk ++ [some (0,0)]) τ := rfl
theorem tkC_slo (t u : TypeId) (cs l : List TV) (id off : Nat) : tkC t cs id off (some (.slo u l)) d K fr tk τ = (τ.lock ≤ id ∧ K (tput fr d (.sla tk.length l)) (tk ++ [some (l.length,u)]) (τ.put id ⟨t,cs.set off (.sl l)⟩)) := rfl
def s2K (n : Nat) (a x : TV) (d : Option Nat) (K : TCont) (fr : TF) (tk : TK) (τ : TH) : Prop := match a,x with
  | .ptr id off,.sla tok l => (match tk[tok]? with
    | some (some (k,t)) => (k = l.length ∧ n = 1) ∧ stB (τ.at id) id off [.slo t l] d K fr (tk.set tok none) τ
    | _ => False)
  | _,_ => False
def s2T (o : Option (Option (Nat × TypeId))) (n id off tok : Nat) (l : List TV) (d : Option Nat) (K : TCont) (fr : TF) (tk : TK) (τ : TH) : Prop := match o with
    | some (some (k,t)) => (k = l.length ∧ n = 1) ∧ stB (τ.at id) id off [.slo t l] d K fr (tk.set tok none) τ
    | _ => False
theorem G_store2 (n : Nat) (y x : Operand) : tG Γ dr (.store n y x) 2 d K fr tk τ = s2K n (tO fr y) (tO fr x) d K fr tk τ := by
  have e0 : tPre (.store n y x) 2 fr τ = (fr,τ) := rfl
  simp only [tG,e0,tOp,s2K,if_true]
  cases tO fr y with
  | ptr id off =>
    cases tO fr x with
    | sla tok l =>
      simp only
      cases tk[tok]? with
      | none => rfl
      | some o =>
        cases o with
        | none => rfl
        | some p =>
          obtain ⟨k,t⟩ := p
          by_cases h : k = l.length ∧ n = 1
          · simp only [h,and_self,if_true,true_and,tstore,stB]
            cases τ.at id with
            | none => rfl
            | some b =>
              simp only [Option.bind_some]
              by_cases hc : τ.lock ≤ id ∧ [TV.slo t l] ≠ [] ∧ off + [TV.slo t l].length ≤ b.cs.length ∧ ([TV.slo t l].all TV.one = true) ∧ underL (id + 1) [TV.slo t l] = true
              · rw [if_pos hc]; simp only [hc,ne_eq,not_false_eq_true,and_self,true_and]; rfl
              · rw [if_neg hc]; simp only [hc,false_and]; rfl
          · simp only [h,if_false,false_and]; rfl
    | _ => rfl
  | _ => rfl
theorem s2K_ptr (n id off tok : Nat) (l : List TV) : s2K n (.ptr id off) (.sla tok l) d K fr tk τ = s2T (tk[tok]?) n id off tok l d K fr tk τ := rfl
theorem s2T_some (n id off tok k t : Nat) (l : List TV) : s2T (some (some (k,t))) n id off tok l d K fr tk τ = ((k = l.length ∧ n = 1) ∧ stB (τ.at id) id off [.slo t l] d K fr (tk.set tok none) τ) := rfl
def bsO (o : Option (List TV)) (d : Option Nat) (K : TCont) (fr : TF) (tk : TK) (τ : TH) : Prop := match o with | some l => K (tput fr d (.sl l)) tk τ | none => False
theorem G_buildSl (t sz len : Nat) (zeros : List Value) (parts : List (Nat × Nat × Operand)) : tG Γ dr (.buildSl t sz len zeros parts) m d K fr tk τ = ((parts.length = len ∧ sz ≠ 0 ∧ zeros.length = len * sz) ∧ bsO (telems sz 0 (parts.map fun p => (p.1,p.2.1,tO fr p.2.2))) d K fr tk τ) := by
  simp only [tG,tOp,bsO]
  by_cases h : parts.length = len ∧ sz ≠ 0 ∧ zeros.length = len * sz
  · rw [if_pos h]
    cases telems sz 0 (parts.map fun p => (p.1,p.2.1,tO fr p.2.2)) <;> simp only [h,ne_eq,not_false_eq_true,and_self,true_and] <;> rfl
  · rw [if_neg h]; simp only [h,false_and]; rfl
theorem bsO_some (l : List TV) : bsO (some l) d K fr tk τ = K (tput fr d (.sl l)) tk τ := rfl
theorem telems_nil (sz i : Nat) : telems sz i [] = some [] := rfl
theorem telems_cons (sz i off n : Nat) (v : TV) (r : List (Nat × Nat × TV)) : telems sz i ((off,n,v) :: r) = if off = i * sz ∧ n = sz ∧ v.canA.cells.length = sz ∧ v.canA.pure = true then (telems sz (i + 1) r).map (v.canA :: ·) else none := rfl
def msK (mu : Bool) (t bytes : Nat) (zero : List Value) (l c : TV) (d : Option Nat) (K : TCont) (fr : TF) (tk : TK) (τ : TH) : Prop := match l,c with
  | .int _ n,.int _ k => (0 ≤ n ∧ n ≤ k ∧ k * bytes ≤ 140737488355328 ∧ k ≤ 9223372036854775807 ∧ zero.length ≠ 0 ∧ (zero.all fun z => (ofS z).canS.pureS) = true) ∧
     (bif mu then K (tput fr d (.slm τ.next 0 n.toNat zero.length)) tk (τ.push ⟨t,((List.replicate n.toNat (zero.map fun z => (ofS z).put)).flatten)⟩) else K (tput fr d (.sl (List.replicate n.toNat (elem (zero.map fun z => (ofS z).canS))))) tk τ)
  | _,_ => False
theorem G_makeSl0 (t bytes : Nat) (zero : List Value) (l c : Operand) : tG Γ dr (.makeSl t bytes zero l c) 0 d K fr tk τ = msK false t bytes zero (tO fr l) (tO fr c) d K fr tk τ := by
  simp only [tG,tOp,msK]
  cases tO fr l with
  | int k1 n =>
    cases tO fr c with
    | int k2 k =>
      simp only
      by_cases h : 0 ≤ n ∧ n ≤ k ∧ k * bytes ≤ 140737488355328 ∧ k ≤ 9223372036854775807 ∧ zero.length ≠ 0 ∧ (zero.all fun z => (ofS z).canS.pureS) = true
      · rw [if_pos h]; simp only [h,ne_eq,not_false_eq_true,and_self,true_and]; rfl
      · rw [if_neg h]; simp only [h,false_and]; rfl
    | _ => rfl
  | _ => rfl
theorem G_makeSl1 (t bytes : Nat) (zero : List Value) (l c : Operand) : tG Γ dr (.makeSl t bytes zero l c) 1 d K fr tk τ = msK true t bytes zero (tO fr l) (tO fr c) d K fr tk τ := by
  simp only [tG,tOp,msK]
  cases tO fr l with
  | int k1 n =>
    cases tO fr c with
    | int k2 k =>
      simp only
      by_cases h : 0 ≤ n ∧ n ≤ k ∧ k * bytes ≤ 140737488355328 ∧ k ≤ 9223372036854775807 ∧ zero.length ≠ 0 ∧ (zero.all fun z => (ofS z).canS.pureS) = true
      · rw [if_pos h]; simp only [h,ne_eq,not_false_eq_true,and_self,true_and]; rfl
      · rw [if_neg h]; simp only [h,false_and]; rfl
    | _ => rfl
  | _ => rfl
def msA (t bytes : Nat) (zero : List Value) (l c : TV) (d : Option Nat) (K : TCont) (fr : TF) (tk : TK) (τ : TH) : Prop := match l,c with
  | .int _ n,.int _ k => (0 ≤ n ∧ n ≤ k ∧ k * bytes ≤ 140737488355328 ∧ k ≤ 9223372036854775807 ∧ zero.length ≠ 0 ∧ (zero.all fun z => (ofS z).canS.pureS) = true) ∧ (n = 0 ∧ zero.length = 1) ∧ K (tput fr d (.slb tk.length t)) (tk ++ [some (0,t)]) τ
  | _,_ => False
theorem G_makeSl2 (t bytes : Nat) (zero : List Value) (l c : Operand) : tG Γ dr (.makeSl t bytes zero l c) 2 d K fr tk τ = msA t bytes zero (tO fr l) (tO fr c) d K fr tk τ := by
  simp only [tG,tOp,msA]
  cases tO fr l with
  | int k1 n =>
    cases tO fr c with
    | int k2 k =>
      simp only
      by_cases h : 0 ≤ n ∧ n ≤ k ∧ k * bytes ≤ 140737488355328 ∧ k ≤ 9223372036854775807 ∧ zero.length ≠ 0 ∧ (zero.all fun z => (ofS z).canS.pureS) = true
      · rw [if_pos h,if_neg (by decide),if_pos trivial]
        by_cases h2 : n = 0 ∧ zero.length = 1
        · rw [if_pos h2]; exact propext ⟨fun q => ⟨h,h2,q⟩,fun q => q.2.2⟩
        · rw [if_neg h2]; exact propext ⟨False.elim,fun q => h2 q.2.1⟩
      · rw [if_neg h]; simp only [h,false_and]; rfl
    | _ => rfl
  | _ => rfl
theorem msA_i (t bytes : Nat) (zero : List Value) (j1 j2 : IntKind) (n k : Int) : msA t bytes zero (.int j1 n) (.int j2 k) d K fr tk τ = ((0 ≤ n ∧ n ≤ k ∧ k * bytes ≤ 140737488355328 ∧ k ≤ 9223372036854775807 ∧ zero.length ≠ 0 ∧ (zero.all fun z => (ofS z).canS.pureS) = true) ∧ (n = 0 ∧ zero.length = 1) ∧ K (tput fr d (.slb tk.length t)) (tk ++ [some (0,t)]) τ) := rfl
theorem msK_i (mu : Bool) (t bytes : Nat) (zero : List Value) (j1 j2 : IntKind) (n k : Int) : msK mu t bytes zero (.int j1 n) (.int j2 k) d K fr tk τ = ((0 ≤ n ∧ n ≤ k ∧ k * bytes ≤ 140737488355328 ∧ k ≤ 9223372036854775807 ∧ zero.length ≠ 0 ∧ (zero.all fun z => (ofS z).canS.pureS) = true) ∧ (bif mu then K (tput fr d (.slm τ.next 0 n.toNat zero.length)) tk (τ.push ⟨t,((List.replicate n.toNat (zero.map fun z => (ofS z).put)).flatten)⟩) else K (tput fr d (.sl (List.replicate n.toNat (elem (zero.map fun z => (ofS z).canS))))) tk τ)) := rfl
def apK (t sz bytes : Nat) (s : TV) (o : Option (List TV)) (d : Option Nat) (K : TCont) (fr : TF) (tk : TK) (τ : TH) : Prop := match o with
  | some xs => (match tapp t sz bytes s xs tk with | some (v,tk') => K (tput fr d v) tk' τ | none => False)
  | none => False
def apT (o : Option (Option (Nat × TypeId))) (t sz bytes tok : Nat) (l xs : List TV) (d : Option Nat) (K : TCont) (fr : TF) (tk : TK) (τ : TH) : Prop := match o with
  | some (some (n,t')) => ((xs.all (fun e => e.cells.length == sz && e.pure) = true ∧ xs.length * bytes ≤ 140737488355328 ∧ xs.length ≤ maxLen) ∧ n = l.length ∧ (n = 0 ∨ t' = t) ∧ (l.all (fun e => e.cells.length == sz) = true) ∧ (l.length + xs.length) * bytes ≤ 140737488355328 ∧ l.length + xs.length ≤ maxLen) ∧
      K (tput fr d (.sla tok (l ++ xs))) (tk.set tok (some (l.length + xs.length,t))) τ
  | _ => False
theorem G_append (t sz bytes : Nat) (s x : Operand) : tG Γ dr (.append t sz bytes s x) 0 d K fr tk τ = (sz ≠ 0 ∧ apK t sz bytes (tO fr s) (tO fr x).list d K fr tk τ) := by
  simp only [tG,tOp,apK]
  by_cases h : sz = 0
  · simp [h,opK]
  · simp only [h,if_false,ne_eq,not_false_eq_true,true_and]
    cases (tO fr x).list with
    | none => rfl
    | some xs =>
      simp only [Option.bind_some,show (0 : Nat) = 1 ↔ False from by decide,if_false]
      cases tapp t sz bytes (tO fr s) xs tk <;> rfl
def amK (t sz bytes : Nat) (s : TV) (o : Option (List TV)) (d : Option Nat) (K : TCont) (fr : TF) (tk : TK) (τ : TH) : Prop := match o with
  | some xs => (match tappM t sz bytes s xs τ with | some (v,τ') => K (tput fr d v) tk τ' | none => False)
  | none => False
def amO (b : Option Ob) (t sz bytes id n : Nat) (xs : List TV) (d : Option Nat) (K : TCont) (fr : TF) (tk : TK) (τ : TH) : Prop := match b with
  | some b => (b.t = t ∧ b.cs.length = n * sz ∧ n ≠ 0 ∧ τ.lock ≤ id ∧ (n + xs.length) * bytes ≤ 140737488355328 ∧ n + xs.length ≤ maxLen) ∧ K (tput fr d (.slm τ.next 0 (n + xs.length) sz)) tk ((τ.put id ⟨t,[]⟩).push ⟨t,b.cs ++ xs.flatMap TV.cells⟩)
  | none => False
theorem G_append1 (t sz bytes : Nat) (s x : Operand) : tG Γ dr (.append t sz bytes s x) 1 d K fr tk τ = (sz ≠ 0 ∧ amK t sz bytes (tO fr s) (tO fr x).list d K fr tk τ) := by
  simp only [tG,tOp,amK]
  by_cases h : sz = 0
  · simp [h,opK]
  · simp only [h,if_false,ne_eq,not_false_eq_true,true_and]
    cases (tO fr x).list with
    | none => rfl
    | some xs =>
      simp only [Option.bind_some,if_true]
      cases tappM t sz bytes (tO fr s) xs τ <;> rfl
theorem amK_slz (t sz bytes : Nat) (xs : List TV) : amK t sz bytes .slz (some xs) d K fr tk τ = ((xs ≠ [] ∧ xs.all (fun e => e.cells.length == sz && e.pure) = true) ∧ (xs.length * bytes ≤ 140737488355328 ∧ xs.length ≤ maxLen) ∧ K (tput fr d (.slm τ.next 0 xs.length sz)) tk (τ.push ⟨t,xs.flatMap TV.cells⟩)) := by
  simp only [amK,tappM]
  by_cases h : xs ≠ [] ∧ xs.all (fun e => e.cells.length == sz && e.pure) = true
  · rw [if_pos h]
    by_cases h2 : xs.length * bytes ≤ 140737488355328 ∧ xs.length ≤ maxLen
    · rw [if_pos h2]; exact propext ⟨fun q => ⟨h,h2,q⟩,fun q => q.2.2⟩
    · rw [if_neg h2]; exact propext ⟨False.elim,fun q => h2 q.2.1⟩
  · rw [if_neg h]; exact propext ⟨False.elim,fun q => h q.1⟩
theorem amK_slm (t sz bytes id n : Nat) (xs : List TV) : amK t sz bytes (.slm id 0 n sz) (some xs) d K fr tk τ = ((xs ≠ [] ∧ xs.all (fun e => e.cells.length == sz && e.pure) = true) ∧ amO (τ.at id) t sz bytes id n xs d K fr tk τ) := by
  simp only [amK,tappM,amO]
  by_cases h : xs ≠ [] ∧ xs.all (fun e => e.cells.length == sz && e.pure) = true
  · rw [if_pos h]
    cases τ.at id with
    | none => exact propext ⟨False.elim,fun q => q.2⟩
    | some b =>
      simp only [Option.bind_some,true_and]
      by_cases h2 : b.t = t ∧ b.cs.length = n * sz ∧ n ≠ 0 ∧ τ.lock ≤ id ∧ (n + xs.length) * bytes ≤ 140737488355328 ∧ n + xs.length ≤ maxLen
      · rw [if_pos h2]; exact propext ⟨fun q => ⟨h,h2,q⟩,fun q => q.2.2⟩
      · rw [if_neg h2]; exact propext ⟨False.elim,fun q => h2 q.2.1⟩
  · rw [if_neg h]; exact propext ⟨False.elim,fun q => h q.1⟩
theorem amO_some (t u sz bytes id n : Nat) (cs xs : List TV) : amO (some ⟨u,cs⟩) t sz bytes id n xs d K fr tk τ = ((u = t ∧ cs.length = n * sz ∧ n ≠ 0 ∧ τ.lock ≤ id ∧ (n + xs.length) * bytes ≤ 140737488355328 ∧ n + xs.length ≤ maxLen) ∧ K (tput fr d (.slm τ.next 0 (n + xs.length) sz)) tk ((τ.put id ⟨t,[]⟩).push ⟨t,cs ++ xs.flatMap TV.cells⟩)) := rfl
theorem apK_slz (t sz bytes : Nat) (xs : List TV) : apK t sz bytes .slz (some xs) d K fr tk τ = ((xs.all (fun e => e.cells.length == sz && e.pure) = true ∧ xs.length * bytes ≤ 140737488355328 ∧ xs.length ≤ maxLen) ∧ K (tput fr d (.sla tk.length xs)) (tk ++ [some (xs.length,t)]) τ) := by
  simp only [apK,tapp]
  by_cases h : xs.all (fun e => e.cells.length == sz && e.pure) = true ∧ xs.length * bytes ≤ 140737488355328 ∧ xs.length ≤ maxLen
  · rw [if_pos h]; simp only [h,and_self,true_and]
  · rw [if_neg h]; simp only [h,false_and]
theorem apK_sla (t sz bytes tok : Nat) (l xs : List TV) : apK t sz bytes (.sla tok l) (some xs) d K fr tk τ = apT (tk[tok]?) t sz bytes tok l xs d K fr tk τ := by
  simp only [apK,tapp,apT]
  by_cases h : xs.all (fun e => e.cells.length == sz && e.pure) = true ∧ xs.length * bytes ≤ 140737488355328 ∧ xs.length ≤ maxLen
  · rw [if_pos h]
    cases tk[tok]? with
    | none => rfl
    | some o =>
      cases o with
      | none => rfl
      | some p =>
        obtain ⟨n,t'⟩ := p
        simp only
        by_cases h2 : n = l.length ∧ (n = 0 ∨ t' = t) ∧ (l.all (fun e => e.cells.length == sz) = true) ∧ (l.length + xs.length) * bytes ≤ 140737488355328 ∧ l.length + xs.length ≤ maxLen
        · rw [if_pos h2]; exact propext ⟨fun q => ⟨⟨h,h2⟩,q⟩,fun q => q.2⟩
        · rw [if_neg h2]; simp only [h2,and_false,false_and]
  · rw [if_neg h]
    cases tk[tok]? with
    | none => rfl
    | some o =>
      cases o with
      | none => rfl
      | some p => simp only [h,false_and]
theorem apT_some (n t' t sz bytes tok : Nat) (l xs : List TV) : apT (some (some (n,t'))) t sz bytes tok l xs d K fr tk τ = (((xs.all (fun e => e.cells.length == sz && e.pure) = true ∧ xs.length * bytes ≤ 140737488355328 ∧ xs.length ≤ maxLen) ∧ n = l.length ∧ (n = 0 ∨ t' = t) ∧ (l.all (fun e => e.cells.length == sz) = true) ∧ (l.length + xs.length) * bytes ≤ 140737488355328 ∧ l.length + xs.length ≤ maxLen) ∧ K (tput fr d (.sla tok (l ++ xs))) (tk.set tok (some (l.length + xs.length,t))) τ) := rfl
def apB (o : Option (Option (Nat × TypeId))) (t sz bytes tok t0 : Nat) (xs : List TV) (d : Option Nat) (K : TCont) (fr : TF) (tk : TK) (τ : TH) : Prop := match o with
  | some (some (n,t')) => ((xs.all (fun e => e.cells.length == sz && e.pure) = true ∧ xs.length * bytes ≤ 140737488355328 ∧ xs.length ≤ maxLen) ∧ n = 0 ∧ t0 = t ∧ sz = 1 ∧ xs ≠ []) ∧
      K (tput fr d (.sla tok xs)) (tk.set tok (some (xs.length,t))) τ
  | _ => False
theorem apK_slb (t sz bytes tok t0 : Nat) (xs : List TV) : apK t sz bytes (.slb tok t0) (some xs) d K fr tk τ = apB (tk[tok]?) t sz bytes tok t0 xs d K fr tk τ := by
  simp only [apK,tapp,apB]
  by_cases h : xs.all (fun e => e.cells.length == sz && e.pure) = true ∧ xs.length * bytes ≤ 140737488355328 ∧ xs.length ≤ maxLen
  · rw [if_pos h]
    cases tk[tok]? with
    | none => rfl
    | some o =>
      cases o with
      | none => rfl
      | some p =>
        obtain ⟨n,t'⟩ := p
        simp only
        by_cases h2 : n = 0 ∧ t0 = t ∧ sz = 1 ∧ xs ≠ []
        · rw [if_pos h2]; exact propext ⟨fun q => ⟨⟨h,h2⟩,q⟩,fun q => q.2⟩
        · rw [if_neg h2]; simp only [h2,and_false,false_and]
  · rw [if_neg h]
    cases tk[tok]? with
    | none => rfl
    | some o =>
      cases o with
      | none => rfl
      | some p => simp only [h,false_and]
theorem apB_some (n t' t sz bytes tok t0 : Nat) (xs : List TV) : apB (some (some (n,t'))) t sz bytes tok t0 xs d K fr tk τ = (((xs.all (fun e => e.cells.length == sz && e.pure) = true ∧ xs.length * bytes ≤ 140737488355328 ∧ xs.length ≤ maxLen) ∧ n = 0 ∧ t0 = t ∧ sz = 1 ∧ xs ≠ []) ∧ K (tput fr d (.sla tok xs)) (tk.set tok (some (xs.length,t))) τ) := rfl
def asK (t : Nat) (s x : TV) (d : Option Nat) (K : TCont) (fr : TF) (tk : TK) (τ : TH) : Prop := match x with | .str b => apK t 1 1 s (some (bytesTV b)) d K fr tk τ | _ => False
theorem G_appendS (t : Nat) (s x : Operand) : tG Γ dr (.appendS t s x) m d K fr tk τ = asK t (tO fr s) (tO fr x) d K fr tk τ := by
  simp only [tG,tOp,asK,apK]
  cases tO fr x with
  | str b => simp only; cases tapp t 1 1 (tO fr s) (bytesTV b) tk <;> rfl
  | _ => rfl
theorem asK_s (t : Nat) (s : TV) (b : ByteArray) : asK t s (.str b) d K fr tk τ = apK t 1 1 s (some (bytesTV b)) d K fr tk τ := rfl
def tbK (mu : Bool) (t : Nat) (x : TV) (d : Option Nat) (K : TCont) (fr : TF) (tk : TK) (τ : TH) : Prop := match x with | .str s => (bif mu then K (tput fr d (.slm τ.next 0 s.size 1)) tk (τ.push ⟨t,bytesTV s⟩) else K (tput fr d (.sl (bytesTV s))) tk τ) | _ => False
theorem G_toBytes0 (t : Nat) (x : Operand) : tG Γ dr (.toBytes t x) 0 d K fr tk τ = tbK false t (tO fr x) d K fr tk τ := by
  simp only [tG,tOp,tbK]
  cases tO fr x <;> rfl
theorem G_toBytes1 (t : Nat) (x : Operand) : tG Γ dr (.toBytes t x) 1 d K fr tk τ = tbK true t (tO fr x) d K fr tk τ := by
  simp only [tG,tOp,tbK]
  cases tO fr x <;> rfl
def tbA (t : Nat) (x : TV) (d : Option Nat) (K : TCont) (fr : TF) (tk : TK) (τ : TH) : Prop := match x with | .str s => K (tput fr d (if s.size = 0 then .slb tk.length t else .sla tk.length (bytesTV s))) (tk ++ [some (s.size,t)]) τ | _ => False
theorem G_toBytes2 (t : Nat) (x : Operand) : tG Γ dr (.toBytes t x) 2 d K fr tk τ = tbA t (tO fr x) d K fr tk τ := by
  simp only [tG,tOp,tbA]
  cases tO fr x <;> rfl
theorem tbA_s (t : Nat) (s : ByteArray) : tbA t (.str s) d K fr tk τ = K (tput fr d (if s.size = 0 then .slb tk.length t else .sla tk.length (bytesTV s))) (tk ++ [some (s.size,t)]) τ := rfl
theorem tbK_s (mu : Bool) (t : Nat) (s : ByteArray) : tbK mu t (.str s) d K fr tk τ = (bif mu then K (tput fr d (.slm τ.next 0 s.size 1)) tk (τ.push ⟨t,bytesTV s⟩) else K (tput fr d (.sl (bytesTV s))) tk τ) := rfl
theorem O_tmp (t : Nat) : tO fr (.tmp t) = lkp fr t := rfl
theorem O_cint (k : IntKind) (n : Int) : tO fr (.const (.int k n)) = .int k n := rfl
theorem O_cbool (c : Bool) : tO fr (.const (.bool c)) = .bool c := rfl
theorem O_cstr (s : ByteArray) : tO fr (.const (.string s)) = .str s := rfl
theorem O_cnilP : tO fr (.const (.pointer none)) = .nilP := rfl
theorem O_cnilS : tO fr (.const (.slice none 0 0)) = .slz := rfl
theorem O_cnilM : tO fr (.const (.map none)) = .nilM := rfl
theorem O_cnilF : tO fr (.const .nilFunc) = .nilF := rfl
theorem O_cnilI : tO fr (.const .nilIface) = .nilI := rfl
theorem O_func (f : FuncId) : tO fr (.func f) = .func f [] [] := rfl
theorem O_cagg (cs : List Value) : tO fr (.const (.agg cs.toArray)) = .agg (cs.map ofS) := rfl
theorem ofS_int (k : IntKind) (n : Int) : ofS (.int k n) = .int k n := rfl
theorem ofS_bool (c : Bool) : ofS (.bool c) = .bool c := rfl
theorem ofS_str (s : ByteArray) : ofS (.string s) = .str s := rfl
theorem ofS_nilP : ofS (.pointer none) = .nilP := rfl
theorem ofS_nilS : ofS (.slice none 0 0) = .slz := rfl
theorem ofS_nilM : ofS (.map none) = .nilM := rfl
theorem ofS_nilF : ofS .nilFunc = .nilF := rfl
theorem ofS_nilI : ofS .nilIface = .nilI := rfl
theorem lkp_hit (t : Nat) (v : TV) (l : TF) : lkp ((t,v) :: l) t = v := by simp [lkp]
theorem lkp_miss (t k : Nat) (v : TV) (l : TF) (h : (t = k) = False) : lkp ((k,v) :: l) t = lkp l t := by simp [lkp,h]
theorem tput_some (t : Nat) (v : TV) : tput fr (some t) v = (t,v) :: fr := rfl
theorem tput_none (v : TV) : tput fr none v = fr := rfl
theorem sel_eq : sel lv fr = lv.map fun t => (t,lkp fr t) := rfl
theorem argF_nil (k : Nat) : argF k [] = [] := rfl
theorem argF_cons (k : Nat) (v : TV) (l : List TV) : argF k (v :: l) = (k,v) :: argF (k + 1) l := rfl
end
theorem cells_undef   : TV.cells  TV.undef = [TV.undef ] := rfl
theorem cells_bool  (b : Bool) : TV.cells  (TV.bool b) = [TV.bool b] := rfl
theorem cells_int  (k : IntKind) (n : Int) : TV.cells  (TV.int k n) = [TV.int k n] := rfl
theorem cells_str  (s : ByteArray) : TV.cells  (TV.str s) = [TV.str s] := rfl
theorem cells_nilP   : TV.cells  TV.nilP = [TV.nilP ] := rfl
theorem cells_ptr  (id off : Nat) : TV.cells  (TV.ptr id off) = [TV.ptr id off] := rfl
theorem cells_rptr  (cs : List TV) (off : Nat) : TV.cells  (TV.rptr cs off) = [TV.rptr cs off] := rfl
theorem cells_slz   : TV.cells  TV.slz = [TV.slz ] := rfl
theorem cells_sl  (l : List TV) : TV.cells  (TV.sl l) = [TV.sl l] := rfl
theorem cells_sla  (k : Nat) (l : List TV) : TV.cells  (TV.sla k l) = [TV.sla k l] := rfl
theorem cells_slb  (k : Nat) (t : TypeId) : TV.cells  (TV.slb k t) = [TV.slb k t] := rfl
theorem cells_slo  (t : TypeId) (l : List TV) : TV.cells  (TV.slo t l) = [TV.slo t l] := rfl
theorem cells_slm  (id off n sz : Nat) : TV.cells  (TV.slm id off n sz) = [TV.slm id off n sz] := rfl
theorem cells_nilM   : TV.cells  TV.nilM = [TV.nilM ] := rfl
theorem cells_nilF   : TV.cells  TV.nilF = [TV.nilF ] := rfl
theorem cells_func  (f : FuncId) (a b : List TV) : TV.cells  (TV.func f a b) = [TV.func f a b] := rfl
theorem cells_nilI   : TV.cells  TV.nilI = [TV.nilI ] := rfl
theorem cells_agg  (cs : List TV) : TV.cells  (TV.agg cs) = cs := rfl
theorem cells_tup  (cs : List TV) : TV.cells  (TV.tup cs) = [TV.tup cs] := rfl
theorem one_undef   : TV.one  TV.undef = false := rfl
theorem one_bool  (b : Bool) : TV.one  (TV.bool b) = true := rfl
theorem one_int  (k : IntKind) (n : Int) : TV.one  (TV.int k n) = true := rfl
theorem one_str  (s : ByteArray) : TV.one  (TV.str s) = true := rfl
theorem one_nilP   : TV.one  TV.nilP = true := rfl
theorem one_ptr  (id off : Nat) : TV.one  (TV.ptr id off) = true := rfl
theorem one_rptr  (cs : List TV) (off : Nat) : TV.one  (TV.rptr cs off) = false := rfl
theorem one_slz   : TV.one  TV.slz = true := rfl
theorem one_sl  (l : List TV) : TV.one  (TV.sl l) = true := rfl
theorem one_sla  (k : Nat) (l : List TV) : TV.one  (TV.sla k l) = true := rfl
theorem one_slb  (k : Nat) (t : TypeId) : TV.one  (TV.slb k t) = true := rfl
theorem one_slo  (t : TypeId) (l : List TV) : TV.one  (TV.slo t l) = true := rfl
theorem one_slm  (id off n sz : Nat) : TV.one  (TV.slm id off n sz) = true := rfl
theorem one_nilM   : TV.one  TV.nilM = true := rfl
theorem one_nilF   : TV.one  TV.nilF = true := rfl
theorem one_func  (f : FuncId) (a b : List TV) : TV.one  (TV.func f a b) = true := rfl
theorem one_nilI   : TV.one  TV.nilI = true := rfl
theorem one_agg  (cs : List TV) : TV.one  (TV.agg cs) = false := rfl
theorem one_tup  (cs : List TV) : TV.one  (TV.tup cs) = false := rfl
theorem known_undef   : TV.known  TV.undef = false := rfl
theorem known_bool  (b : Bool) : TV.known  (TV.bool b) = true := rfl
theorem known_int  (k : IntKind) (n : Int) : TV.known  (TV.int k n) = true := rfl
theorem known_str  (s : ByteArray) : TV.known  (TV.str s) = true := rfl
theorem known_nilP   : TV.known  TV.nilP = true := rfl
theorem known_ptr  (id off : Nat) : TV.known  (TV.ptr id off) = true := rfl
theorem known_rptr  (cs : List TV) (off : Nat) : TV.known  (TV.rptr cs off) = true := rfl
theorem known_slz   : TV.known  TV.slz = true := rfl
theorem known_sl  (l : List TV) : TV.known  (TV.sl l) = true := rfl
theorem known_sla  (k : Nat) (l : List TV) : TV.known  (TV.sla k l) = true := rfl
theorem known_slb  (k : Nat) (t : TypeId) : TV.known  (TV.slb k t) = true := rfl
theorem known_slo  (t : TypeId) (l : List TV) : TV.known  (TV.slo t l) = true := rfl
theorem known_slm  (id off n sz : Nat) : TV.known  (TV.slm id off n sz) = true := rfl
theorem known_nilM   : TV.known  TV.nilM = true := rfl
theorem known_nilF   : TV.known  TV.nilF = true := rfl
theorem known_func  (f : FuncId) (a b : List TV) : TV.known  (TV.func f a b) = true := rfl
theorem known_nilI   : TV.known  TV.nilI = true := rfl
theorem known_agg  (cs : List TV) : TV.known  (TV.agg cs) = true := rfl
theorem known_tup  (cs : List TV) : TV.known  (TV.tup cs) = true := rfl
theorem canS_undef   : TV.canS  TV.undef = TV.undef  := rfl
theorem canS_bool  (b : Bool) : TV.canS  (TV.bool b) = TV.bool b := rfl
theorem canS_int  (k : IntKind) (n : Int) : TV.canS  (TV.int k n) = TV.int k n := rfl
theorem canS_str  (s : ByteArray) : TV.canS  (TV.str s) = TV.str s := rfl
theorem canS_nilP   : TV.canS  TV.nilP = TV.nilP  := rfl
theorem canS_ptr  (id off : Nat) : TV.canS  (TV.ptr id off) = TV.ptr id off := rfl
theorem canS_rptr  (cs : List TV) (off : Nat) : TV.canS  (TV.rptr cs off) = TV.rptr cs off := rfl
theorem canS_slz   : TV.canS  TV.slz = .sl [] := rfl
theorem canS_sl  (l : List TV) : TV.canS  (TV.sl l) = TV.sl l := rfl
theorem canS_sla  (k : Nat) (l : List TV) : TV.canS  (TV.sla k l) = .sl l := rfl
theorem canS_slb  (k : Nat) (t : TypeId) : TV.canS  (TV.slb k t) = .sl [] := rfl
theorem canS_slo  (t : TypeId) (l : List TV) : TV.canS  (TV.slo t l) = TV.slo t l := rfl
theorem canS_slm  (id off n sz : Nat) : TV.canS  (TV.slm id off n sz) = TV.slm id off n sz := rfl
theorem canS_nilM   : TV.canS  TV.nilM = TV.nilM  := rfl
theorem canS_nilF   : TV.canS  TV.nilF = TV.nilF  := rfl
theorem canS_func  (f : FuncId) (a b : List TV) : TV.canS  (TV.func f a b) = TV.func f a b := rfl
theorem canS_nilI   : TV.canS  TV.nilI = TV.nilI  := rfl
theorem canS_agg  (cs : List TV) : TV.canS  (TV.agg cs) = TV.agg cs := rfl
theorem canS_tup  (cs : List TV) : TV.canS  (TV.tup cs) = TV.tup cs := rfl
theorem canA_undef   : TV.canA  TV.undef = TV.undef  := rfl
theorem canA_bool  (b : Bool) : TV.canA  (TV.bool b) = TV.bool b := rfl
theorem canA_int  (k : IntKind) (n : Int) : TV.canA  (TV.int k n) = TV.int k n := rfl
theorem canA_str  (s : ByteArray) : TV.canA  (TV.str s) = TV.str s := rfl
theorem canA_nilP   : TV.canA  TV.nilP = TV.nilP  := rfl
theorem canA_ptr  (id off : Nat) : TV.canA  (TV.ptr id off) = TV.ptr id off := rfl
theorem canA_rptr  (cs : List TV) (off : Nat) : TV.canA  (TV.rptr cs off) = TV.rptr cs off := rfl
theorem canA_slz   : TV.canA  TV.slz = .sl [] := rfl
theorem canA_sl  (l : List TV) : TV.canA  (TV.sl l) = TV.sl l := rfl
theorem canA_sla  (k : Nat) (l : List TV) : TV.canA  (TV.sla k l) = .sl l := rfl
theorem canA_slb  (k : Nat) (t : TypeId) : TV.canA  (TV.slb k t) = .sl [] := rfl
theorem canA_slo  (t : TypeId) (l : List TV) : TV.canA  (TV.slo t l) = TV.slo t l := rfl
theorem canA_slm  (id off n sz : Nat) : TV.canA  (TV.slm id off n sz) = TV.slm id off n sz := rfl
theorem canA_nilM   : TV.canA  TV.nilM = TV.nilM  := rfl
theorem canA_nilF   : TV.canA  TV.nilF = TV.nilF  := rfl
theorem canA_func  (f : FuncId) (a b : List TV) : TV.canA  (TV.func f a b) = TV.func f a b := rfl
theorem canA_nilI   : TV.canA  TV.nilI = TV.nilI  := rfl
theorem canA_agg  (cs : List TV) : TV.canA  (TV.agg cs) = .agg (cs.map TV.canS) := rfl
theorem canA_tup  (cs : List TV) : TV.canA  (TV.tup cs) = TV.tup cs := rfl
theorem canT_undef   : TV.canT  TV.undef = TV.undef  := rfl
theorem canT_bool  (b : Bool) : TV.canT  (TV.bool b) = TV.bool b := rfl
theorem canT_int  (k : IntKind) (n : Int) : TV.canT  (TV.int k n) = TV.int k n := rfl
theorem canT_str  (s : ByteArray) : TV.canT  (TV.str s) = TV.str s := rfl
theorem canT_nilP   : TV.canT  TV.nilP = TV.nilP  := rfl
theorem canT_ptr  (id off : Nat) : TV.canT  (TV.ptr id off) = TV.ptr id off := rfl
theorem canT_rptr  (cs : List TV) (off : Nat) : TV.canT  (TV.rptr cs off) = TV.rptr cs off := rfl
theorem canT_slz   : TV.canT  TV.slz = .sl [] := rfl
theorem canT_sl  (l : List TV) : TV.canT  (TV.sl l) = TV.sl l := rfl
theorem canT_sla  (k : Nat) (l : List TV) : TV.canT  (TV.sla k l) = .sl l := rfl
theorem canT_slb  (k : Nat) (t : TypeId) : TV.canT  (TV.slb k t) = .sl [] := rfl
theorem canT_slo  (t : TypeId) (l : List TV) : TV.canT  (TV.slo t l) = TV.slo t l := rfl
theorem canT_slm  (id off n sz : Nat) : TV.canT  (TV.slm id off n sz) = TV.slm id off n sz := rfl
theorem canT_nilM   : TV.canT  TV.nilM = TV.nilM  := rfl
theorem canT_nilF   : TV.canT  TV.nilF = TV.nilF  := rfl
theorem canT_func  (f : FuncId) (a b : List TV) : TV.canT  (TV.func f a b) = TV.func f a b := rfl
theorem canT_nilI   : TV.canT  TV.nilI = TV.nilI  := rfl
theorem canT_agg  (cs : List TV) : TV.canT  (TV.agg cs) = .agg (cs.map TV.canS) := rfl
theorem canT_tup  (cs : List TV) : TV.canT  (TV.tup cs) = .tup (cs.map TV.canA) := rfl
theorem part_undef   : TV.part  TV.undef = TV.undef  := rfl
theorem part_bool  (b : Bool) : TV.part  (TV.bool b) = TV.bool b := rfl
theorem part_int  (k : IntKind) (n : Int) : TV.part  (TV.int k n) = TV.int k n := rfl
theorem part_str  (s : ByteArray) : TV.part  (TV.str s) = TV.str s := rfl
theorem part_nilP   : TV.part  TV.nilP = TV.nilP  := rfl
theorem part_ptr  (id off : Nat) : TV.part  (TV.ptr id off) = TV.ptr id off := rfl
theorem part_rptr  (cs : List TV) (off : Nat) : TV.part  (TV.rptr cs off) = TV.rptr cs off := rfl
theorem part_slz   : TV.part  TV.slz = TV.slz  := rfl
theorem part_sl  (l : List TV) : TV.part  (TV.sl l) = TV.sl l := rfl
theorem part_sla  (k : Nat) (l : List TV) : TV.part  (TV.sla k l) = .sl l := rfl
theorem part_slb  (k : Nat) (t : TypeId) : TV.part  (TV.slb k t) = .sl [] := rfl
theorem part_slo  (t : TypeId) (l : List TV) : TV.part  (TV.slo t l) = TV.slo t l := rfl
theorem part_slm  (id off n sz : Nat) : TV.part  (TV.slm id off n sz) = TV.slm id off n sz := rfl
theorem part_nilM   : TV.part  TV.nilM = TV.nilM  := rfl
theorem part_nilF   : TV.part  TV.nilF = TV.nilF  := rfl
theorem part_func  (f : FuncId) (a b : List TV) : TV.part  (TV.func f a b) = TV.func f a b := rfl
theorem part_nilI   : TV.part  TV.nilI = TV.nilI  := rfl
theorem part_agg  (cs : List TV) : TV.part  (TV.agg cs) = TV.agg cs := rfl
theorem part_tup  (cs : List TV) : TV.part  (TV.tup cs) = TV.tup cs := rfl
theorem put_undef   : TV.put  TV.undef = TV.undef  := rfl
theorem put_bool  (b : Bool) : TV.put  (TV.bool b) = TV.bool b := rfl
theorem put_int  (k : IntKind) (n : Int) : TV.put  (TV.int k n) = TV.int k n := rfl
theorem put_str  (s : ByteArray) : TV.put  (TV.str s) = TV.str s := rfl
theorem put_nilP   : TV.put  TV.nilP = TV.nilP  := rfl
theorem put_ptr  (id off : Nat) : TV.put  (TV.ptr id off) = TV.ptr id off := rfl
theorem put_rptr  (cs : List TV) (off : Nat) : TV.put  (TV.rptr cs off) = TV.rptr cs off := rfl
theorem put_slz   : TV.put  TV.slz = TV.slz  := rfl
theorem put_sl  (l : List TV) : TV.put  (TV.sl l) = TV.sl l := rfl
theorem put_sla  (k : Nat) (l : List TV) : TV.put  (TV.sla k l) = .sl l := rfl
theorem put_slb  (k : Nat) (t : TypeId) : TV.put  (TV.slb k t) = .sl [] := rfl
theorem put_slo  (t : TypeId) (l : List TV) : TV.put  (TV.slo t l) = TV.slo t l := rfl
theorem put_slm  (id off n sz : Nat) : TV.put  (TV.slm id off n sz) = TV.slm id off n sz := rfl
theorem put_nilM   : TV.put  TV.nilM = TV.nilM  := rfl
theorem put_nilF   : TV.put  TV.nilF = TV.nilF  := rfl
theorem put_func  (f : FuncId) (a b : List TV) : TV.put  (TV.func f a b) = TV.func f a b := rfl
theorem put_nilI   : TV.put  TV.nilI = TV.nilI  := rfl
theorem put_agg  (cs : List TV) : TV.put  (TV.agg cs) = TV.agg cs := rfl
theorem put_tup  (cs : List TV) : TV.put  (TV.tup cs) = TV.tup cs := rfl
theorem rd_undef   : TV.rd  TV.undef = TV.undef  := rfl
theorem rd_bool  (b : Bool) : TV.rd  (TV.bool b) = TV.bool b := rfl
theorem rd_int  (k : IntKind) (n : Int) : TV.rd  (TV.int k n) = TV.int k n := rfl
theorem rd_str  (s : ByteArray) : TV.rd  (TV.str s) = TV.str s := rfl
theorem rd_nilP   : TV.rd  TV.nilP = TV.nilP  := rfl
theorem rd_ptr  (id off : Nat) : TV.rd  (TV.ptr id off) = TV.ptr id off := rfl
theorem rd_rptr  (cs : List TV) (off : Nat) : TV.rd  (TV.rptr cs off) = TV.rptr cs off := rfl
theorem rd_slz   : TV.rd  TV.slz = TV.slz  := rfl
theorem rd_sl  (l : List TV) : TV.rd  (TV.sl l) = TV.sl l := rfl
theorem rd_sla  (k : Nat) (l : List TV) : TV.rd  (TV.sla k l) = TV.sla k l := rfl
theorem rd_slb  (k : Nat) (t : TypeId) : TV.rd  (TV.slb k t) = TV.slb k t := rfl
theorem rd_slo  (t : TypeId) (l : List TV) : TV.rd  (TV.slo t l) = .sl l := rfl
theorem rd_slm  (id off n sz : Nat) : TV.rd  (TV.slm id off n sz) = TV.slm id off n sz := rfl
theorem rd_nilM   : TV.rd  TV.nilM = TV.nilM  := rfl
theorem rd_nilF   : TV.rd  TV.nilF = TV.nilF  := rfl
theorem rd_func  (f : FuncId) (a b : List TV) : TV.rd  (TV.func f a b) = TV.func f a b := rfl
theorem rd_nilI   : TV.rd  TV.nilI = TV.nilI  := rfl
theorem rd_agg  (cs : List TV) : TV.rd  (TV.agg cs) = TV.agg cs := rfl
theorem rd_tup  (cs : List TV) : TV.rd  (TV.tup cs) = TV.tup cs := rfl
theorem list_slz   : TV.list  TV.slz = some [] := rfl
theorem list_sl  (l : List TV) : TV.list  (TV.sl l) = some l := rfl
theorem list_sla  (k : Nat) (l : List TV) : TV.list  (TV.sla k l) = some l := rfl
theorem pureS_undef   : TV.pureS  TV.undef = false := rfl
theorem pureS_bool  (b : Bool) : TV.pureS  (TV.bool b) = true := rfl
theorem pureS_int  (k : IntKind) (n : Int) : TV.pureS  (TV.int k n) = true := rfl
theorem pureS_str  (s : ByteArray) : TV.pureS  (TV.str s) = true := rfl
theorem pureS_nilP   : TV.pureS  TV.nilP = true := rfl
theorem pureS_ptr  (id off : Nat) : TV.pureS  (TV.ptr id off) = false := rfl
theorem pureS_rptr  (cs : List TV) (off : Nat) : TV.pureS  (TV.rptr cs off) = false := rfl
theorem pureS_slz   : TV.pureS  TV.slz = false := rfl
theorem pureS_sl  (l : List TV) : TV.pureS  (TV.sl l) = true := rfl
theorem pureS_sla  (k : Nat) (l : List TV) : TV.pureS  (TV.sla k l) = false := rfl
theorem pureS_slb  (k : Nat) (t : TypeId) : TV.pureS  (TV.slb k t) = false := rfl
theorem pureS_slo  (t : TypeId) (l : List TV) : TV.pureS  (TV.slo t l) = false := rfl
theorem pureS_slm  (id off n sz : Nat) : TV.pureS  (TV.slm id off n sz) = false := rfl
theorem pureS_nilM   : TV.pureS  TV.nilM = true := rfl
theorem pureS_nilF   : TV.pureS  TV.nilF = true := rfl
theorem pureS_nilI   : TV.pureS  TV.nilI = true := rfl
theorem pureS_agg  (cs : List TV) : TV.pureS  (TV.agg cs) = false := rfl
theorem pureS_tup  (cs : List TV) : TV.pureS  (TV.tup cs) = false := rfl
theorem pureS_func0 (f : FuncId) : TV.pureS (.func f [] []) = true := rfl
theorem pure_undef   : TV.pure  TV.undef = false := rfl
theorem pure_bool  (b : Bool) : TV.pure  (TV.bool b) = true := rfl
theorem pure_int  (k : IntKind) (n : Int) : TV.pure  (TV.int k n) = true := rfl
theorem pure_str  (s : ByteArray) : TV.pure  (TV.str s) = true := rfl
theorem pure_nilP   : TV.pure  TV.nilP = true := rfl
theorem pure_ptr  (id off : Nat) : TV.pure  (TV.ptr id off) = false := rfl
theorem pure_rptr  (cs : List TV) (off : Nat) : TV.pure  (TV.rptr cs off) = false := rfl
theorem pure_slz   : TV.pure  TV.slz = false := rfl
theorem pure_sl  (l : List TV) : TV.pure  (TV.sl l) = true := rfl
theorem pure_sla  (k : Nat) (l : List TV) : TV.pure  (TV.sla k l) = false := rfl
theorem pure_slb  (k : Nat) (t : TypeId) : TV.pure  (TV.slb k t) = false := rfl
theorem pure_slo  (t : TypeId) (l : List TV) : TV.pure  (TV.slo t l) = false := rfl
theorem pure_slm  (id off n sz : Nat) : TV.pure  (TV.slm id off n sz) = false := rfl
theorem pure_nilM   : TV.pure  TV.nilM = true := rfl
theorem pure_nilF   : TV.pure  TV.nilF = true := rfl
theorem pure_nilI   : TV.pure  TV.nilI = true := rfl
theorem pure_agg  (cs : List TV) : TV.pure  (TV.agg cs) = cs.all TV.pureS := rfl
theorem pure_tup  (cs : List TV) : TV.pure  (TV.tup cs) = false := rfl
theorem under_undef (n : Nat)  : TV.under n TV.undef = true := by simp [TV.under]
theorem lt_undef (n m : Nat)  : TV.lt n m TV.undef = true := by simp [TV.lt]
theorem under_bool (n : Nat) (b : Bool) : TV.under n (TV.bool b) = true := by simp [TV.under]
theorem lt_bool (n m : Nat) (b : Bool) : TV.lt n m (TV.bool b) = true := by simp [TV.lt]
theorem under_int (n : Nat) (k : IntKind) (q : Int) : TV.under n (TV.int k q) = true := by simp [TV.under]
theorem lt_int (n m : Nat) (k : IntKind) (q : Int) : TV.lt n m (TV.int k q) = true := by simp [TV.lt]
theorem under_str (n : Nat) (s : ByteArray) : TV.under n (TV.str s) = true := by simp [TV.under]
theorem lt_str (n m : Nat) (s : ByteArray) : TV.lt n m (TV.str s) = true := by simp [TV.lt]
theorem under_nilP (n : Nat)  : TV.under n TV.nilP = true := by simp [TV.under]
theorem lt_nilP (n m : Nat)  : TV.lt n m TV.nilP = true := by simp [TV.lt]
theorem under_ptr (n : Nat) (id off : Nat) : TV.under n (TV.ptr id off) = decide (id < n) := by simp [TV.under]
theorem lt_ptr (n m : Nat) (id off : Nat) : TV.lt n m (TV.ptr id off) = decide (id < n) := by simp [TV.lt]
theorem under_rptr (n : Nat) (cs : List TV) (off : Nat) : TV.under n (TV.rptr cs off) = true := by simp [TV.under]
theorem lt_rptr (n m : Nat) (cs : List TV) (off : Nat) : TV.lt n m (TV.rptr cs off) = true := by simp [TV.lt]
theorem under_slz (n : Nat)  : TV.under n TV.slz = true := by simp [TV.under]
theorem lt_slz (n m : Nat)  : TV.lt n m TV.slz = true := by simp [TV.lt]
theorem under_sl (n : Nat) (l : List TV) : TV.under n (TV.sl l) = true := by simp [TV.under]
theorem lt_sl (n m : Nat) (l : List TV) : TV.lt n m (TV.sl l) = true := by simp [TV.lt]
theorem under_sla (n : Nat) (k : Nat) (l : List TV) : TV.under n (TV.sla k l) = false := by simp [TV.under]
theorem lt_sla (n m : Nat) (k : Nat) (l : List TV) : TV.lt n m (TV.sla k l) = decide (k < m) := by simp [TV.lt]
theorem under_slb (n : Nat) (k : Nat) (t : TypeId) : TV.under n (TV.slb k t) = false := by simp [TV.under]
theorem lt_slb (n m : Nat) (k : Nat) (t : TypeId) : TV.lt n m (TV.slb k t) = decide (k < m) := by simp [TV.lt]
theorem under_slo (n : Nat) (t : TypeId) (l : List TV) : TV.under n (TV.slo t l) = true := by simp [TV.under]
theorem lt_slo (n m : Nat) (t : TypeId) (l : List TV) : TV.lt n m (TV.slo t l) = true := by simp [TV.lt]
theorem under_slm (n : Nat) (id off q sz : Nat) : TV.under n (TV.slm id off q sz) = decide (id < n) := by simp [TV.under]
theorem lt_slm (n m : Nat) (id off q sz : Nat) : TV.lt n m (TV.slm id off q sz) = decide (id < n) := by simp [TV.lt]
theorem under_nilM (n : Nat)  : TV.under n TV.nilM = true := by simp [TV.under]
theorem lt_nilM (n m : Nat)  : TV.lt n m TV.nilM = true := by simp [TV.lt]
theorem under_nilF (n : Nat)  : TV.under n TV.nilF = true := by simp [TV.under]
theorem lt_nilF (n m : Nat)  : TV.lt n m TV.nilF = true := by simp [TV.lt]
theorem under_func (n : Nat) (f : FuncId) (a b : List TV) : TV.under n (TV.func f a b) = (underL n a && underL n b) := by simp [TV.under]
theorem lt_func (n m : Nat) (f : FuncId) (a b : List TV) : TV.lt n m (TV.func f a b) = (ltL n m a && ltL n m b) := by simp [TV.lt]
theorem under_nilI (n : Nat)  : TV.under n TV.nilI = true := by simp [TV.under]
theorem lt_nilI (n m : Nat)  : TV.lt n m TV.nilI = true := by simp [TV.lt]
theorem under_agg (n : Nat) (cs : List TV) : TV.under n (TV.agg cs) = underL n cs := by simp [TV.under]
theorem lt_agg (n m : Nat) (cs : List TV) : TV.lt n m (TV.agg cs) = ltL n m cs := by simp [TV.lt]
theorem under_tup (n : Nat) (cs : List TV) : TV.under n (TV.tup cs) = underL n cs := by simp [TV.under]
theorem lt_tup (n m : Nat) (cs : List TV) : TV.lt n m (TV.tup cs) = ltL n m cs := by simp [TV.lt]
theorem underL_nil (n : Nat) : underL n [] = true := by simp [underL]
theorem underL_cons (n : Nat) (v : TV) (l : List TV) : underL n (v :: l) = (v.under n && underL n l) := by simp [underL]
theorem ltL_nil (n m : Nat) : ltL n m [] = true := by simp [ltL]
theorem ltL_cons (n m : Nat) (v : TV) (l : List TV) : ltL n m (v :: l) = (v.lt n m && ltL n m l) := by simp [ltL]
theorem tW_lp {Γ : FuncId → Option TG} {lv : List Nat} {a : TC} {Q : TEx → TCont} {fr : TF} {tk : TK} {τ : TH} (h : ∀ LQ : TEx → TCont,(∀ fr' tk' τ',LQ .normal fr' tk' τ' = blkK lv tk τ fr' tk' τ' (tW Γ (.loop lv a) Q)) → (LQ .ret = Q .ret) → (∀ id,LQ (.exit id) = Q (.exit id)) → tW Γ a LQ (sel lv fr) tk τ) : tW Γ (.loop lv a) Q fr tk τ := by
  rw [tW_loop]
  exact h _ (fun fr' tk' τ' => loopT_n Γ fr' tk tk' τ τ' a lv Q) rfl fun _ => rfl
def gfind : List (Nat × TG) → FuncId → Option TG
  | [],_ => none
  | (k,g) :: r,f => if f = k then some g else gfind r f
def GOKL (P : Program) (l : List (Nat × TG)) : Prop := ∀ p ∈ l,match p.2 with
  | .code fn => ∃ H,fnIC P H p.1 = some (fn.n,fn.c.erase,fn.rs)
  | .prim g => ∀ args τ r τ',g args τ = some (r,τ') → CallT P p.1 args τ r τ'
theorem gok_nil {P : Program} : GOKL P [] := fun p hp => by simp at hp
theorem gok_cons {P : Program} {H : List (Nat × DH)} {f n : Nat} {c : TC} {rs : List R} {fz : Bool} (h : fnIC P H f = some (n,c.erase,rs)) {l : List (Nat × TG)} (k : GOKL P l) : GOKL P ((f,.code ⟨n,c,rs,fz⟩) :: l) := fun p hp => by
  rcases List.mem_cons.1 hp with rfl | hp
  · exact ⟨H,h⟩
  · exact k p hp
theorem gok_prim {P : Program} {f : Nat} {g : List TV → TH → Option (TV × TH)} (h : ∀ args τ r τ',g args τ = some (r,τ') → CallT P f args τ r τ') {l : List (Nat × TG)} (k : GOKL P l) : GOKL P ((f,.prim g) :: l) := fun p hp => by
  rcases List.mem_cons.1 hp with rfl | hp
  · exact h
  · exact k p hp
theorem gfind_mem : ∀ {l : List (Nat × TG)} {f : Nat} {g : TG},gfind l f = some g → (f,g) ∈ l
  | [],_,_,h => by cases h
  | (k,g) :: r,f,g',h => by
    simp only [gfind] at h
    split at h
    · rename_i e; injection h with h; subst e h; simp
    · exact List.mem_cons_of_mem _ (gfind_mem h)
theorem gok_list {P : Program} {l : List (Nat × TG)} (h : GOKL P l) : GOK P (gfind l) := fun f => by
  cases hq : gfind l f with
  | none => trivial
  | some g =>
    have := h _ (gfind_mem hq)
    cases g with
    | code fn => exact this
    | prim g => exact this
section
variable (τ : TH) (b c : Ob) (id k n : Nat)
def cellB (o : Option Ob) (off : Nat) : Option TV := match o with | some b => (b.cs[off]?).map TV.rd | none => none
def rowB (o : Option Ob) (off n : Nat) : Option (List TV) := match o with | some b => if off + n ≤ b.cs.length then some (((b.cs.drop off).take n).map TV.rd) else none | none => none
theorem tcell_at (off : Nat) : tcell τ id off = cellB (τ.at id) off := by unfold tcell cellB; cases τ.at id <;> rfl
theorem trow_at (off : Nat) : trow τ id off n = rowB (τ.at id) off n := by unfold trow rowB; cases τ.at id <;> rfl
theorem cellB_some (t : TypeId) (cs : List TV) (off : Nat) : cellB (some ⟨t,cs⟩) off = (cs[off]?).map TV.rd := rfl
theorem rowB_some (t : TypeId) (cs : List TV) (off : Nat) : rowB (some ⟨t,cs⟩) off n = if off + n ≤ cs.length then some (((cs.drop off).take n).map TV.rd) else none := rfl
theorem at_push_n : (τ.push b).at τ.next = some b := at_put_new
theorem at_push_eq (h : id = τ.next) : (τ.push b).at id = some b := by subst h; exact at_put_new
theorem at_push_o (h : id < τ.next) : (τ.push b).at id = τ.at id := at_put_old h
theorem next_pu : (τ.push b).next = τ.next + 1 := next_push
theorem next_pt : (τ.put id b).next = τ.next := next_put
theorem next_lk : (τ.locked n).next = τ.next := rfl
theorem at_lk : (τ.locked n).at id = τ.at id := rfl
theorem lock_pu : (τ.push b).lock = τ.lock := rfl
theorem lock_pt : (τ.put id b).lock = τ.lock := rfl
theorem lock_ct : (τ.cut n).lock = τ.lock := rfl
theorem lock_lk : (τ.locked n).lock = n := rfl
theorem at_pt (h : id < τ.next) : (τ.put id b).at id = some b := at_put_same h
theorem at_pt_ne (h : (k = id) = False) : (τ.put id b).at k = τ.at k := at_put_neq (by simpa using h)
theorem pt_pt : (τ.put id b).put id c = τ.put id c := by simp [TH.put]
theorem pt_push_n (h : id = τ.next) : (τ.push b).put id c = τ.push c := by subst h; simp [TH.put,TH.push,TH.next,List.set_append_right]
theorem pt_push_o (h : id < τ.next) : (τ.push b).put id c = (τ.put id c).push b := by simp only [TH.put,TH.push,TH.next] at *; rw [List.set_append_left _ _ h]
theorem cut_push (h : n ≤ τ.next) : (τ.push b).cut n = τ.cut n := by simp only [TH.cut,TH.push,TH.next] at *; rw [List.take_append_of_le_length h]
theorem cut_ge (h : τ.next ≤ n) : τ.cut n = τ := cut_all h
theorem cut_locked : (τ.locked k).cut n = (τ.cut n).locked k := rfl
theorem push_locked : (τ.locked k).push b = (τ.push b).locked k := rfl
theorem put_locked : (τ.locked k).put id b = (τ.put id b).locked k := rfl
theorem locked_locked : (τ.locked k).locked n = τ.locked n := rfl
theorem locked_self : τ.locked τ.lock = τ := rfl
end
section
variable (k : IntKind) (x y : Int) (s u : ByteArray)
theorem tb_add : tbin .add (.int k x) (.int k y) = some (.int k (k.wrap (x + y))) := by simp [tbin,vbin,ibin,ofS]
theorem tb_sub : tbin .sub (.int k x) (.int k y) = some (.int k (k.wrap (x - y))) := by simp [tbin,vbin,ibin,ofS]
theorem tb_mul : tbin .mul (.int k x) (.int k y) = some (.int k (k.wrap (x * y))) := by simp [tbin,vbin,ibin,ofS]
theorem tb_and : tbin .and (.int k x) (.int k y) = some (.int k (k.wrap (BitVec.ofInt k.bits x &&& BitVec.ofInt k.bits y).toNat)) := by simp [tbin,vbin,ibin,ofS]
theorem tb_or : tbin .or (.int k x) (.int k y) = some (.int k (k.wrap (BitVec.ofInt k.bits x ||| BitVec.ofInt k.bits y).toNat)) := by simp [tbin,vbin,ibin,ofS]
theorem tb_xor : tbin .xor (.int k x) (.int k y) = some (.int k (k.wrap (BitVec.ofInt k.bits x ^^^ BitVec.ofInt k.bits y).toNat)) := by simp [tbin,vbin,ibin,ofS]
theorem tb_lss : tbin .lss (.int k x) (.int k y) = some (.bool (decide (x < y))) := by simp [tbin,vbin,ibin,ofS]
theorem tb_leq : tbin .leq (.int k x) (.int k y) = some (.bool (decide (x ≤ y))) := by simp [tbin,vbin,ibin,ofS]
theorem tb_gtr : tbin .gtr (.int k x) (.int k y) = some (.bool (decide (y < x))) := by simp [tbin,vbin,ibin,ofS]
theorem tb_geq : tbin .geq (.int k x) (.int k y) = some (.bool (decide (y ≤ x))) := by simp [tbin,vbin,ibin,ofS]
theorem tb_eql : tbin .eql (.int k x) (.int k y) = some (.bool (decide (x = y))) := by simp [tbin,vbin,ibin,ofS]; rfl
theorem tb_neq : tbin .neq (.int k x) (.int k y) = some (.bool (decide (¬ x = y))) := by simp [tbin,vbin,ibin,ofS]; rfl
theorem tb_quo : tbin .quo (.int k x) (.int k y) = if y = 0 then none else some (.int k (k.wrap (x.tdiv y))) := by simp [tbin,vbin,ibin,ofS]; split <;> simp [ofS]
theorem tb_rem : tbin .rem (.int k x) (.int k y) = if y = 0 then none else some (.int k (x.tmod y)) := by simp [tbin,vbin,ibin,ofS]; split <;> simp [ofS]
theorem tb_shl (j : IntKind) : tbin .shl (.int k x) (.int j y) = if y < 0 then none else some (.int k (k.wrap (x * 2 ^ (Nat.min y.toNat k.bits)))) := by simp [tbin,vbin,ishift,ofS]; split <;> simp [ofS]
theorem tb_shr (j : IntKind) : tbin .shr (.int k x) (.int j y) = if y < 0 then none else some (.int k (x.fdiv (2 ^ (Nat.min y.toNat k.bits)))) := by simp [tbin,vbin,ishift,ofS]; split <;> simp [ofS]
theorem tb_cat : tbin .add (.str s) (.str u) = if 9223372036854775807 < ((s.size + u.size : Nat) : Int) then none else some (.str (s ++ u)) := by
  have e : IntKind.i64.max = 9223372036854775807 := by decide
  simp only [tbin,sbin,e]
  split
  · rfl
  · rfl
theorem toList_injT {s u : ByteArray} : s.toList = u.toList ↔ s = u := by
  constructor
  · intro h
    rw [ByteArray.toList_eq,ByteArray.toList_eq] at h
    cases s; cases u; simp_all
  · rintro rfl; rfl
theorem tb_seql : tbin .eql (.str s) (.str u) = some (.bool (decide (s = u))) := by simp only [tbin,sbin,Option.map_some,ofS]; congr 2; by_cases h : s = u <;> simp [h,toList_injT]
theorem tb_sneq : tbin .neq (.str s) (.str u) = some (.bool (decide (¬ s = u))) := by simp only [tbin,sbin,Option.map_some,ofS]; congr 2; by_cases h : s = u <;> simp [h,toList_injT]
theorem tu_not (b : Bool) : tun .not (.bool b) = some (.bool !b) := rfl
def notI (k : IntKind) (x : Int) : Int := k.wrap (BitVec.ofInt k.bits (if k.signed then -1 else k.max) ^^^ BitVec.ofInt k.bits x).toNat
theorem tu_xor : tun .xor (.int k x) = some (.int k (notI k x)) := rfl
theorem tu_neg : tun .neg (.int k x) = some (.int k (k.wrap (0 - x))) := rfl
end
theorem ite_none_pK (c : Prop) [Decidable c] (v : TV) (d : Option Nat) (K : TCont) (fr : TF) (tk : TK) (τ : TH) : pK (if c then none else some v) d K fr tk τ = (¬ c ∧ K (tput fr d v) tk τ) := by unfold pK; by_cases h : c <;> simp [h]
theorem lt_more {g n k : Nat} (h : g < n) : (g < n + k) = True := by simp; omega
theorem le_more {g n k : Nat} (h : g ≤ n) : (g ≤ n + k) = True := by simp; omega
theorem lt_self (n k : Nat) : (n < n + k) = (0 < k) := by simp
theorem lt_left (n j k : Nat) : (n + j < n + k) = (j < k) := by simp
theorem le_self (n k : Nat) : (n ≤ n + k) = True := by simp
theorem le_left (n j k : Nat) : (n + j ≤ n + k) = (j ≤ k) := by simp
theorem eq_left (n j k : Nat) : (n + j = n + k) = (j = k) := by simp
theorem eq_self_add (n k : Nat) : (n = n + k) = (k = 0) := by simp
theorem add_eq_selfT (n k : Nat) : (n + k = n) = (k = 0) := by simp
theorem not_lt_selfT (n : Nat) : (n < n) = False := by simp
theorem add_lit (n j k : Nat) : n + j + k = n + (j + k) := Nat.add_assoc n j k
theorem decide_T : decide True = true := rfl
theorem decide_F : decide False = false := rfl
theorem TT0 : type_of% (And.intro (And.intro (And.intro (And.intro @W_skip @W_exit) (And.intro @W_ret @W_ops)) (And.intro (And.intro @W_drawp @W_seq) (And.intro @W_cond @W_block))) (And.intro (And.intro (And.intro @W_clean @cT_bool) (And.intro @thenT_n @thenT_r)) (And.intro (And.intro @thenT_e @blockT_n) (And.intro @blockT_e @blockT_ne)))) := (And.intro (And.intro (And.intro (And.intro @W_skip @W_exit) (And.intro @W_ret @W_ops)) (And.intro (And.intro @W_drawp @W_seq) (And.intro @W_cond @W_block))) (And.intro (And.intro (And.intro @W_clean @cT_bool) (And.intro @thenT_n @thenT_r)) (And.intro (And.intro @thenT_e @blockT_n) (And.intro @blockT_e @blockT_ne))))
theorem TT1 : type_of% (And.intro (And.intro (And.intro (And.intro @blockT_r @loopT_n) (And.intro @loopT_r @loopT_e)) (And.intro (And.intro @blkK_eq @retT_r) (And.intro @retT_n @retT_zr))) (And.intro (And.intro (And.intro @retT_zn @fzK_some) (And.intro @rtK_some @tres_1)) (And.intro (And.intro @tres_0 @tres_2) (And.intro @tresList_nil @tresList_cons)))) := (And.intro (And.intro (And.intro (And.intro @blockT_r @loopT_n) (And.intro @loopT_r @loopT_e)) (And.intro (And.intro @blkK_eq @retT_r) (And.intro @retT_n @retT_zr))) (And.intro (And.intro (And.intro @retT_zn @fzK_some) (And.intro @rtK_some @tres_1)) (And.intro (And.intro @tres_0 @tres_2) (And.intro @tresList_nil @tresList_cons))))
theorem TT2 : type_of% (And.intro (And.intro (And.intro (And.intro @consO_some @tresOne_tmp) (And.intro @tresOne_c1 @tresOne_cN)) (And.intro (And.intro @rd1_ptr @rdN_ptr) (And.intro @tL_nil @tL_none))) (And.intro (And.intro (And.intro @tL_some @tLD_nil) (And.intro @tLD_none @tLD_some)) (And.intro (And.intro @gd_tt @gd_ff) (And.intro @gd_tf @gd_ft)))) := (And.intro (And.intro (And.intro (And.intro @consO_some @tresOne_tmp) (And.intro @tresOne_c1 @tresOne_cN)) (And.intro (And.intro @rd1_ptr @rdN_ptr) (And.intro @tL_nil @tL_none))) (And.intro (And.intro (And.intro @tL_some @tLD_nil) (And.intro @tLD_none @tLD_some)) (And.intro (And.intro @gd_tt @gd_ff) (And.intro @gd_tf @gd_ft))))
theorem TT3 : type_of% (And.intro (And.intro (And.intro (And.intro @gd_tup @G_call) (And.intro @G_callB @tfzL_nil)) (And.intro (And.intro @tfzL_cons @zipO_some) (And.intro @tfz_agg @tfz_bool))) (And.intro (And.intro (And.intro @tfzS_bool @tfz_int) (And.intro @tfzS_int @tfz_str)) (And.intro (And.intro @tfzS_str @tfz_sl) (And.intro @tfzS_sl @tfz_sla)))) := (And.intro (And.intro (And.intro (And.intro @gd_tup @G_call) (And.intro @G_callB @tfzL_nil)) (And.intro (And.intro @tfzL_cons @zipO_some) (And.intro @tfz_agg @tfz_bool))) (And.intro (And.intro (And.intro @tfzS_bool @tfz_int) (And.intro @tfzS_int @tfz_str)) (And.intro (And.intro @tfzS_str @tfz_sl) (And.intro @tfzS_sl @tfz_sla))))
theorem TT4 : type_of% (And.intro (And.intro (And.intro (And.intro @tfzS_sla @tfz_slz) (And.intro @tfzS_slz @tfz_slm)) (And.intro (And.intro @G_callW @G_callv) (And.intro @G_callvW @cv_func))) (And.intro (And.intro (And.intro @pK_some @pK_ite) (And.intro @opK_some @opK_ite)) (And.intro (And.intro @G_mov @G_mov3) (And.intro @G_mov1 @nilTok_z)))) := (And.intro (And.intro (And.intro (And.intro @tfzS_sla @tfz_slz) (And.intro @tfzS_slz @tfz_slm)) (And.intro (And.intro @G_callW @G_callv) (And.intro @G_callvW @cv_func))) (And.intro (And.intro (And.intro @pK_some @pK_ite) (And.intro @opK_some @opK_ite)) (And.intro (And.intro @G_mov @G_mov3) (And.intro @G_mov1 @nilTok_z))))
theorem TT5 : type_of% (And.intro (And.intro (And.intro (And.intro @G_pick @pickO_b) (And.intro @G_load1 @ld1_ptr)) (And.intro (And.intro @ld1_rptr @G_loadN) (And.intro @ldN_ptr @ldN_rptr))) (And.intro (And.intro (And.intro @G_nilchk @nchk_ptr) (And.intro @nchk_rptr @nchk_func)) (And.intro (And.intro @G_bin @G_eqB) (And.intro @eqb_bb @G_isNil)))) := (And.intro (And.intro (And.intro (And.intro @G_pick @pickO_b) (And.intro @G_load1 @ld1_ptr)) (And.intro (And.intro @ld1_rptr @G_loadN) (And.intro @ldN_ptr @ldN_rptr))) (And.intro (And.intro (And.intro @G_nilchk @nchk_ptr) (And.intro @nchk_rptr @nchk_func)) (And.intro (And.intro @G_bin @G_eqB) (And.intro @eqb_bb @G_isNil))))
theorem TT6 : type_of% (And.intro (And.intro (And.intro (And.intro @tnil_p_nilP @tnil_p_ptr) (And.intro @tnil_p_rptr @tnil_s_slz)) (And.intro (And.intro @tnil_s_sl @tnil_s_slm) (And.intro @tnil_m_nilM @tnil_f_nilF))) (And.intro (And.intro (And.intro @tnil_f_func @G_un) (And.intro @G_conv @cnv_int)) (And.intro (And.intro @G_convS @cnvS_str) (And.intro @G_fieldAddr @lfK_ptr)))) := (And.intro (And.intro (And.intro (And.intro @tnil_p_nilP @tnil_p_ptr) (And.intro @tnil_p_rptr @tnil_s_slz)) (And.intro (And.intro @tnil_s_sl @tnil_s_slm) (And.intro @tnil_m_nilM @tnil_f_nilF))) (And.intro (And.intro (And.intro @tnil_f_func @G_un) (And.intro @G_conv @cnv_int)) (And.intro (And.intro @G_convS @cnvS_str) (And.intro @G_fieldAddr @lfK_ptr))))
theorem TT7 : type_of% (And.intro (And.intro (And.intro (And.intro @lfO_some @renF_nil) (And.intro @renF_cons @ren_ptr)) (And.intro (And.intro @ren_undef @ren_bool) (And.intro @ren_int @ren_str))) (And.intro (And.intro (And.intro @ren_nilP @ren_rptr) (And.intro @ren_slz @ren_sl)) (And.intro (And.intro @ren_sla @ren_slb) (And.intro @ren_slo @ren_slm)))) := (And.intro (And.intro (And.intro (And.intro @lfO_some @renF_nil) (And.intro @renF_cons @ren_ptr)) (And.intro (And.intro @ren_undef @ren_bool) (And.intro @ren_int @ren_str))) (And.intro (And.intro (And.intro @ren_nilP @ren_rptr) (And.intro @ren_slz @ren_sl)) (And.intro (And.intro @ren_sla @ren_slb) (And.intro @ren_slo @ren_slm))))
theorem TT8 : type_of% (And.intro (And.intro (And.intro (And.intro @ren_nilM @ren_nilF) (And.intro @ren_func @ren_nilI)) (And.intro (And.intro @ren_agg @ren_tup) (And.intro @fad_ptr @fad_rptr))) (And.intro (And.intro (And.intro @G_field1 @fl1_agg) (And.intro @G_fieldN @flN_agg)) (And.intro (And.intro @G_indexPtr @ixP_ptr) (And.intro @ixP_rptr @G_indexSl)))) := (And.intro (And.intro (And.intro (And.intro @ren_nilM @ren_nilF) (And.intro @ren_func @ren_nilI)) (And.intro (And.intro @ren_agg @ren_tup) (And.intro @fad_ptr @fad_rptr))) (And.intro (And.intro (And.intro @G_field1 @fl1_agg) (And.intro @G_fieldN @flN_agg)) (And.intro (And.intro @G_indexPtr @ixP_ptr) (And.intro @ixP_rptr @G_indexSl))))
theorem TT9 : type_of% (And.intro (And.intro (And.intro (And.intro @ixS_sl @ixS_sla) (And.intro @ixS_slm @G_indexStr)) (And.intro (And.intro @ixT_s @G_sliceStr) (And.intro @slT_s @G_sliceSl))) (And.intro (And.intro (And.intro @slS_sl @slS_sla) (And.intro @slS_slm @tb_nn)) (And.intro (And.intro @tb_ln @tb_nh) (And.intro @tb_lh @map_ite)))) := (And.intro (And.intro (And.intro (And.intro @ixS_sl @ixS_sla) (And.intro @ixS_slm @G_indexStr)) (And.intro (And.intro @ixT_s @G_sliceStr) (And.intro @slT_s @G_sliceSl))) (And.intro (And.intro (And.intro @slS_sl @slS_sla) (And.intro @slS_slm @tb_nn)) (And.intro (And.intro @tb_ln @tb_nh) (And.intro @tb_lh @map_ite))))
theorem TT10 : type_of% (And.intro (And.intro (And.intro (And.intro @G_lenS @lenT_s) (And.intro @G_lenL @lenV_slm)) (And.intro (And.intro @lenV_sl @lenV_sla) (And.intro @lenV_slz @G_min))) (And.intro (And.intro (And.intro @minT_i @G_max) (And.intro @maxT_i @G_mkFunc)) (And.intro (And.intro @G_extract @exT_t) (And.intro @G_build @tfill_nil)))) := (And.intro (And.intro (And.intro (And.intro @G_lenS @lenT_s) (And.intro @G_lenL @lenV_slm)) (And.intro (And.intro @lenV_sl @lenV_sla) (And.intro @lenV_slz @G_min))) (And.intro (And.intro (And.intro @minT_i @G_max) (And.intro @maxT_i @G_mkFunc)) (And.intro (And.intro @G_extract @exT_t) (And.intro @G_build @tfill_nil))))
theorem TT11 : type_of% (And.intro (And.intro (And.intro (And.intro @tfill_cons @tset_nil) (And.intro @tset_cons @G_toStr)) (And.intro (And.intro @strO_sl @strO_sla) (And.intro @strO_slz @strO_slm))) (And.intro (And.intro (And.intro @G_indexAgg @ixA_a) (And.intro @G_indexAggN @ixAN_a)) (And.intro (And.intro @G_eqF @eqA_a) (And.intro @G_box @G_store)))) := (And.intro (And.intro (And.intro (And.intro @tfill_cons @tset_nil) (And.intro @tset_cons @G_toStr)) (And.intro (And.intro @strO_sl @strO_sla) (And.intro @strO_slz @strO_slm))) (And.intro (And.intro (And.intro @G_indexAgg @ixA_a) (And.intro @G_indexAggN @ixAN_a)) (And.intro (And.intro @G_eqF @eqA_a) (And.intro @G_box @G_store))))
theorem TT12 : type_of% (And.intro (And.intro (And.intro (And.intro @stK_ptr @stB_some) (And.intro @G_load2 @tkK_ptr)) (And.intro (And.intro @tkB_some @tkC_slz) (And.intro @tkC_slo @G_store2))) (And.intro (And.intro (And.intro @s2K_ptr @s2T_some) (And.intro @G_buildSl @bsO_some)) (And.intro (And.intro @telems_nil @telems_cons) (And.intro @G_makeSl0 @G_makeSl1)))) := (And.intro (And.intro (And.intro (And.intro @stK_ptr @stB_some) (And.intro @G_load2 @tkK_ptr)) (And.intro (And.intro @tkB_some @tkC_slz) (And.intro @tkC_slo @G_store2))) (And.intro (And.intro (And.intro @s2K_ptr @s2T_some) (And.intro @G_buildSl @bsO_some)) (And.intro (And.intro @telems_nil @telems_cons) (And.intro @G_makeSl0 @G_makeSl1))))
theorem TT13 : type_of% (And.intro (And.intro (And.intro (And.intro @G_makeSl2 @msA_i) (And.intro @msK_i @G_append)) (And.intro (And.intro @G_append1 @amK_slz) (And.intro @amK_slm @amO_some))) (And.intro (And.intro (And.intro @apK_slz @apK_sla) (And.intro @apT_some @apK_slb)) (And.intro (And.intro @apB_some @G_appendS) (And.intro @asK_s @G_toBytes0)))) := (And.intro (And.intro (And.intro (And.intro @G_makeSl2 @msA_i) (And.intro @msK_i @G_append)) (And.intro (And.intro @G_append1 @amK_slz) (And.intro @amK_slm @amO_some))) (And.intro (And.intro (And.intro @apK_slz @apK_sla) (And.intro @apT_some @apK_slb)) (And.intro (And.intro @apB_some @G_appendS) (And.intro @asK_s @G_toBytes0))))
theorem TT14 : type_of% (And.intro (And.intro (And.intro (And.intro @G_toBytes1 @G_toBytes2) (And.intro @tbA_s @tbK_s)) (And.intro (And.intro @O_tmp @O_cint) (And.intro @O_cbool @O_cstr))) (And.intro (And.intro (And.intro @O_cnilP @O_cnilS) (And.intro @O_cnilM @O_cnilF)) (And.intro (And.intro @O_cnilI @O_func) (And.intro @O_cagg @ofS_int)))) := (And.intro (And.intro (And.intro (And.intro @G_toBytes1 @G_toBytes2) (And.intro @tbA_s @tbK_s)) (And.intro (And.intro @O_tmp @O_cint) (And.intro @O_cbool @O_cstr))) (And.intro (And.intro (And.intro @O_cnilP @O_cnilS) (And.intro @O_cnilM @O_cnilF)) (And.intro (And.intro @O_cnilI @O_func) (And.intro @O_cagg @ofS_int))))
theorem TT15 : type_of% (And.intro (And.intro (And.intro (And.intro @ofS_bool @ofS_str) (And.intro @ofS_nilP @ofS_nilS)) (And.intro (And.intro @ofS_nilM @ofS_nilF) (And.intro @ofS_nilI @lkp_hit))) (And.intro (And.intro (And.intro @lkp_miss @tput_some) (And.intro @tput_none @sel_eq)) (And.intro (And.intro @argF_nil @argF_cons) (And.intro @cells_undef @cells_bool)))) := (And.intro (And.intro (And.intro (And.intro @ofS_bool @ofS_str) (And.intro @ofS_nilP @ofS_nilS)) (And.intro (And.intro @ofS_nilM @ofS_nilF) (And.intro @ofS_nilI @lkp_hit))) (And.intro (And.intro (And.intro @lkp_miss @tput_some) (And.intro @tput_none @sel_eq)) (And.intro (And.intro @argF_nil @argF_cons) (And.intro @cells_undef @cells_bool))))
theorem TT16 : type_of% (And.intro (And.intro (And.intro (And.intro @cells_int @cells_str) (And.intro @cells_nilP @cells_ptr)) (And.intro (And.intro @cells_rptr @cells_slz) (And.intro @cells_sl @cells_sla))) (And.intro (And.intro (And.intro @cells_slb @cells_slo) (And.intro @cells_slm @cells_nilM)) (And.intro (And.intro @cells_nilF @cells_func) (And.intro @cells_nilI @cells_agg)))) := (And.intro (And.intro (And.intro (And.intro @cells_int @cells_str) (And.intro @cells_nilP @cells_ptr)) (And.intro (And.intro @cells_rptr @cells_slz) (And.intro @cells_sl @cells_sla))) (And.intro (And.intro (And.intro @cells_slb @cells_slo) (And.intro @cells_slm @cells_nilM)) (And.intro (And.intro @cells_nilF @cells_func) (And.intro @cells_nilI @cells_agg))))
theorem TT17 : type_of% (And.intro (And.intro (And.intro (And.intro @cells_tup @one_undef) (And.intro @one_bool @one_int)) (And.intro (And.intro @one_str @one_nilP) (And.intro @one_ptr @one_rptr))) (And.intro (And.intro (And.intro @one_slz @one_sl) (And.intro @one_sla @one_slb)) (And.intro (And.intro @one_slo @one_slm) (And.intro @one_nilM @one_nilF)))) := (And.intro (And.intro (And.intro (And.intro @cells_tup @one_undef) (And.intro @one_bool @one_int)) (And.intro (And.intro @one_str @one_nilP) (And.intro @one_ptr @one_rptr))) (And.intro (And.intro (And.intro @one_slz @one_sl) (And.intro @one_sla @one_slb)) (And.intro (And.intro @one_slo @one_slm) (And.intro @one_nilM @one_nilF))))
theorem TT18 : type_of% (And.intro (And.intro (And.intro (And.intro @one_func @one_nilI) (And.intro @one_agg @one_tup)) (And.intro (And.intro @known_undef @known_bool) (And.intro @known_int @known_str))) (And.intro (And.intro (And.intro @known_nilP @known_ptr) (And.intro @known_rptr @known_slz)) (And.intro (And.intro @known_sl @known_sla) (And.intro @known_slb @known_slo)))) := (And.intro (And.intro (And.intro (And.intro @one_func @one_nilI) (And.intro @one_agg @one_tup)) (And.intro (And.intro @known_undef @known_bool) (And.intro @known_int @known_str))) (And.intro (And.intro (And.intro @known_nilP @known_ptr) (And.intro @known_rptr @known_slz)) (And.intro (And.intro @known_sl @known_sla) (And.intro @known_slb @known_slo))))
theorem TT19 : type_of% (And.intro (And.intro (And.intro (And.intro @known_slm @known_nilM) (And.intro @known_nilF @known_func)) (And.intro (And.intro @known_nilI @known_agg) (And.intro @known_tup @canS_undef))) (And.intro (And.intro (And.intro @canS_bool @canS_int) (And.intro @canS_str @canS_nilP)) (And.intro (And.intro @canS_ptr @canS_rptr) (And.intro @canS_slz @canS_sl)))) := (And.intro (And.intro (And.intro (And.intro @known_slm @known_nilM) (And.intro @known_nilF @known_func)) (And.intro (And.intro @known_nilI @known_agg) (And.intro @known_tup @canS_undef))) (And.intro (And.intro (And.intro @canS_bool @canS_int) (And.intro @canS_str @canS_nilP)) (And.intro (And.intro @canS_ptr @canS_rptr) (And.intro @canS_slz @canS_sl))))
theorem TT20 : type_of% (And.intro (And.intro (And.intro (And.intro @canS_sla @canS_slb) (And.intro @canS_slo @canS_slm)) (And.intro (And.intro @canS_nilM @canS_nilF) (And.intro @canS_func @canS_nilI))) (And.intro (And.intro (And.intro @canS_agg @canS_tup) (And.intro @canA_undef @canA_bool)) (And.intro (And.intro @canA_int @canA_str) (And.intro @canA_nilP @canA_ptr)))) := (And.intro (And.intro (And.intro (And.intro @canS_sla @canS_slb) (And.intro @canS_slo @canS_slm)) (And.intro (And.intro @canS_nilM @canS_nilF) (And.intro @canS_func @canS_nilI))) (And.intro (And.intro (And.intro @canS_agg @canS_tup) (And.intro @canA_undef @canA_bool)) (And.intro (And.intro @canA_int @canA_str) (And.intro @canA_nilP @canA_ptr))))
theorem TT21 : type_of% (And.intro (And.intro (And.intro (And.intro @canA_rptr @canA_slz) (And.intro @canA_sl @canA_sla)) (And.intro (And.intro @canA_slb @canA_slo) (And.intro @canA_slm @canA_nilM))) (And.intro (And.intro (And.intro @canA_nilF @canA_func) (And.intro @canA_nilI @canA_agg)) (And.intro (And.intro @canA_tup @canT_undef) (And.intro @canT_bool @canT_int)))) := (And.intro (And.intro (And.intro (And.intro @canA_rptr @canA_slz) (And.intro @canA_sl @canA_sla)) (And.intro (And.intro @canA_slb @canA_slo) (And.intro @canA_slm @canA_nilM))) (And.intro (And.intro (And.intro @canA_nilF @canA_func) (And.intro @canA_nilI @canA_agg)) (And.intro (And.intro @canA_tup @canT_undef) (And.intro @canT_bool @canT_int))))
theorem TT22 : type_of% (And.intro (And.intro (And.intro (And.intro @canT_str @canT_nilP) (And.intro @canT_ptr @canT_rptr)) (And.intro (And.intro @canT_slz @canT_sl) (And.intro @canT_sla @canT_slb))) (And.intro (And.intro (And.intro @canT_slo @canT_slm) (And.intro @canT_nilM @canT_nilF)) (And.intro (And.intro @canT_func @canT_nilI) (And.intro @canT_agg @canT_tup)))) := (And.intro (And.intro (And.intro (And.intro @canT_str @canT_nilP) (And.intro @canT_ptr @canT_rptr)) (And.intro (And.intro @canT_slz @canT_sl) (And.intro @canT_sla @canT_slb))) (And.intro (And.intro (And.intro @canT_slo @canT_slm) (And.intro @canT_nilM @canT_nilF)) (And.intro (And.intro @canT_func @canT_nilI) (And.intro @canT_agg @canT_tup))))
theorem TT23 : type_of% (And.intro (And.intro (And.intro (And.intro @part_undef @part_bool) (And.intro @part_int @part_str)) (And.intro (And.intro @part_nilP @part_ptr) (And.intro @part_rptr @part_slz))) (And.intro (And.intro (And.intro @part_sl @part_sla) (And.intro @part_slb @part_slo)) (And.intro (And.intro @part_slm @part_nilM) (And.intro @part_nilF @part_func)))) := (And.intro (And.intro (And.intro (And.intro @part_undef @part_bool) (And.intro @part_int @part_str)) (And.intro (And.intro @part_nilP @part_ptr) (And.intro @part_rptr @part_slz))) (And.intro (And.intro (And.intro @part_sl @part_sla) (And.intro @part_slb @part_slo)) (And.intro (And.intro @part_slm @part_nilM) (And.intro @part_nilF @part_func))))
theorem TT24 : type_of% (And.intro (And.intro (And.intro (And.intro @part_nilI @part_agg) (And.intro @part_tup @put_undef)) (And.intro (And.intro @put_bool @put_int) (And.intro @put_str @put_nilP))) (And.intro (And.intro (And.intro @put_ptr @put_rptr) (And.intro @put_slz @put_sl)) (And.intro (And.intro @put_sla @put_slb) (And.intro @put_slo @put_slm)))) := (And.intro (And.intro (And.intro (And.intro @part_nilI @part_agg) (And.intro @part_tup @put_undef)) (And.intro (And.intro @put_bool @put_int) (And.intro @put_str @put_nilP))) (And.intro (And.intro (And.intro @put_ptr @put_rptr) (And.intro @put_slz @put_sl)) (And.intro (And.intro @put_sla @put_slb) (And.intro @put_slo @put_slm))))
theorem TT25 : type_of% (And.intro (And.intro (And.intro (And.intro @put_nilM @put_nilF) (And.intro @put_func @put_nilI)) (And.intro (And.intro @put_agg @put_tup) (And.intro @rd_undef @rd_bool))) (And.intro (And.intro (And.intro @rd_int @rd_str) (And.intro @rd_nilP @rd_ptr)) (And.intro (And.intro @rd_rptr @rd_slz) (And.intro @rd_sl @rd_sla)))) := (And.intro (And.intro (And.intro (And.intro @put_nilM @put_nilF) (And.intro @put_func @put_nilI)) (And.intro (And.intro @put_agg @put_tup) (And.intro @rd_undef @rd_bool))) (And.intro (And.intro (And.intro @rd_int @rd_str) (And.intro @rd_nilP @rd_ptr)) (And.intro (And.intro @rd_rptr @rd_slz) (And.intro @rd_sl @rd_sla))))
theorem TT26 : type_of% (And.intro (And.intro (And.intro (And.intro @rd_slb @rd_slo) (And.intro @rd_slm @rd_nilM)) (And.intro (And.intro @rd_nilF @rd_func) (And.intro @rd_nilI @rd_agg))) (And.intro (And.intro (And.intro @rd_tup @list_slz) (And.intro @list_sl @list_sla)) (And.intro (And.intro @pureS_undef @pureS_bool) (And.intro @pureS_int @pureS_str)))) := (And.intro (And.intro (And.intro (And.intro @rd_slb @rd_slo) (And.intro @rd_slm @rd_nilM)) (And.intro (And.intro @rd_nilF @rd_func) (And.intro @rd_nilI @rd_agg))) (And.intro (And.intro (And.intro @rd_tup @list_slz) (And.intro @list_sl @list_sla)) (And.intro (And.intro @pureS_undef @pureS_bool) (And.intro @pureS_int @pureS_str))))
theorem TT27 : type_of% (And.intro (And.intro (And.intro (And.intro @pureS_nilP @pureS_ptr) (And.intro @pureS_rptr @pureS_slz)) (And.intro (And.intro @pureS_sl @pureS_sla) (And.intro @pureS_slb @pureS_slo))) (And.intro (And.intro (And.intro @pureS_slm @pureS_nilM) (And.intro @pureS_nilF @pureS_nilI)) (And.intro (And.intro @pureS_agg @pureS_tup) (And.intro @pureS_func0 @pure_undef)))) := (And.intro (And.intro (And.intro (And.intro @pureS_nilP @pureS_ptr) (And.intro @pureS_rptr @pureS_slz)) (And.intro (And.intro @pureS_sl @pureS_sla) (And.intro @pureS_slb @pureS_slo))) (And.intro (And.intro (And.intro @pureS_slm @pureS_nilM) (And.intro @pureS_nilF @pureS_nilI)) (And.intro (And.intro @pureS_agg @pureS_tup) (And.intro @pureS_func0 @pure_undef))))
theorem TT28 : type_of% (And.intro (And.intro (And.intro (And.intro @pure_bool @pure_int) (And.intro @pure_str @pure_nilP)) (And.intro (And.intro @pure_ptr @pure_rptr) (And.intro @pure_slz @pure_sl))) (And.intro (And.intro (And.intro @pure_sla @pure_slb) (And.intro @pure_slo @pure_slm)) (And.intro (And.intro @pure_nilM @pure_nilF) (And.intro @pure_nilI @pure_agg)))) := (And.intro (And.intro (And.intro (And.intro @pure_bool @pure_int) (And.intro @pure_str @pure_nilP)) (And.intro (And.intro @pure_ptr @pure_rptr) (And.intro @pure_slz @pure_sl))) (And.intro (And.intro (And.intro @pure_sla @pure_slb) (And.intro @pure_slo @pure_slm)) (And.intro (And.intro @pure_nilM @pure_nilF) (And.intro @pure_nilI @pure_agg))))
theorem TT29 : type_of% (And.intro (And.intro (And.intro (And.intro @pure_tup @under_undef) (And.intro @lt_undef @under_bool)) (And.intro (And.intro @lt_bool @under_int) (And.intro @lt_int @under_str))) (And.intro (And.intro (And.intro @lt_str @under_nilP) (And.intro @lt_nilP @under_ptr)) (And.intro (And.intro @lt_ptr @under_rptr) (And.intro @lt_rptr @under_slz)))) := (And.intro (And.intro (And.intro (And.intro @pure_tup @under_undef) (And.intro @lt_undef @under_bool)) (And.intro (And.intro @lt_bool @under_int) (And.intro @lt_int @under_str))) (And.intro (And.intro (And.intro @lt_str @under_nilP) (And.intro @lt_nilP @under_ptr)) (And.intro (And.intro @lt_ptr @under_rptr) (And.intro @lt_rptr @under_slz))))
theorem TT30 : type_of% (And.intro (And.intro (And.intro (And.intro @lt_slz @under_sl) (And.intro @lt_sl @under_sla)) (And.intro (And.intro @lt_sla @under_slb) (And.intro @lt_slb @under_slo))) (And.intro (And.intro (And.intro @lt_slo @under_slm) (And.intro @lt_slm @under_nilM)) (And.intro (And.intro @lt_nilM @under_nilF) (And.intro @lt_nilF @under_func)))) := (And.intro (And.intro (And.intro (And.intro @lt_slz @under_sl) (And.intro @lt_sl @under_sla)) (And.intro (And.intro @lt_sla @under_slb) (And.intro @lt_slb @under_slo))) (And.intro (And.intro (And.intro @lt_slo @under_slm) (And.intro @lt_slm @under_nilM)) (And.intro (And.intro @lt_nilM @under_nilF) (And.intro @lt_nilF @under_func))))
theorem TT31 : type_of% (And.intro (And.intro (And.intro (And.intro @lt_func @under_nilI) (And.intro @lt_nilI @under_agg)) (And.intro (And.intro @lt_agg @under_tup) (And.intro @lt_tup @underL_nil))) (And.intro (And.intro (And.intro @underL_cons @ltL_nil) (And.intro @ltL_cons @tcell_at)) (And.intro (And.intro @trow_at @cellB_some) (And.intro @rowB_some @at_push_n)))) := (And.intro (And.intro (And.intro (And.intro @lt_func @under_nilI) (And.intro @lt_nilI @under_agg)) (And.intro (And.intro @lt_agg @under_tup) (And.intro @lt_tup @underL_nil))) (And.intro (And.intro (And.intro @underL_cons @ltL_nil) (And.intro @ltL_cons @tcell_at)) (And.intro (And.intro @trow_at @cellB_some) (And.intro @rowB_some @at_push_n))))
theorem TT32 : type_of% (And.intro (And.intro (And.intro (And.intro @at_push_eq @at_push_o) (And.intro @next_pu @next_pt)) (And.intro (And.intro @next_lk @at_lk) (And.intro @lock_pu @lock_pt))) (And.intro (And.intro (And.intro @lock_ct @lock_lk) (And.intro @at_pt @at_pt_ne)) (And.intro (And.intro @pt_pt @pt_push_n) (And.intro @pt_push_o @cut_push)))) := (And.intro (And.intro (And.intro (And.intro @at_push_eq @at_push_o) (And.intro @next_pu @next_pt)) (And.intro (And.intro @next_lk @at_lk) (And.intro @lock_pu @lock_pt))) (And.intro (And.intro (And.intro @lock_ct @lock_lk) (And.intro @at_pt @at_pt_ne)) (And.intro (And.intro @pt_pt @pt_push_n) (And.intro @pt_push_o @cut_push))))
theorem TT33 : type_of% (And.intro (And.intro (And.intro (And.intro @cut_ge @cut_locked) (And.intro @push_locked @put_locked)) (And.intro (And.intro @locked_locked @locked_self) (And.intro @tb_add @tb_sub))) (And.intro (And.intro (And.intro @tb_mul @tb_and) (And.intro @tb_or @tb_xor)) (And.intro (And.intro @tb_lss @tb_leq) (And.intro @tb_gtr @tb_geq)))) := (And.intro (And.intro (And.intro (And.intro @cut_ge @cut_locked) (And.intro @push_locked @put_locked)) (And.intro (And.intro @locked_locked @locked_self) (And.intro @tb_add @tb_sub))) (And.intro (And.intro (And.intro @tb_mul @tb_and) (And.intro @tb_or @tb_xor)) (And.intro (And.intro @tb_lss @tb_leq) (And.intro @tb_gtr @tb_geq))))
theorem TT34 : type_of% (And.intro (And.intro (And.intro (And.intro @tb_eql @tb_neq) (And.intro @tb_quo @tb_rem)) (And.intro (And.intro @tb_shl @tb_shr) (And.intro @tb_cat @tb_seql))) (And.intro (And.intro (And.intro @tb_sneq @tu_not) (And.intro @tu_xor @tu_neg)) (And.intro (And.intro @ite_none_pK @lt_more) (And.intro @le_more @lt_self)))) := (And.intro (And.intro (And.intro (And.intro @tb_eql @tb_neq) (And.intro @tb_quo @tb_rem)) (And.intro (And.intro @tb_shl @tb_shr) (And.intro @tb_cat @tb_seql))) (And.intro (And.intro (And.intro @tb_sneq @tu_not) (And.intro @tu_xor @tu_neg)) (And.intro (And.intro @ite_none_pK @lt_more) (And.intro @le_more @lt_self))))
theorem TT35 : type_of% (And.intro (And.intro (And.intro (And.intro @lt_left @le_self) (And.intro @le_left @eq_left)) (And.intro (And.intro @eq_self_add @add_eq_selfT) (And.intro @not_lt_selfT @add_lit))) (And.intro (And.intro (And.intro @decide_T @decide_F) (And.intro @List.map_cons.{0,0} @List.map_nil.{0,0})) (And.intro (And.intro @List.getD_cons_zero.{0} @List.getD_cons_succ.{0}) (And.intro @List.getElem?_cons_zero.{0} @List.getElem?_cons_succ.{0})))) := (And.intro (And.intro (And.intro (And.intro @lt_left @le_self) (And.intro @le_left @eq_left)) (And.intro (And.intro @eq_self_add @add_eq_selfT) (And.intro @not_lt_selfT @add_lit))) (And.intro (And.intro (And.intro @decide_T @decide_F) (And.intro @List.map_cons.{0,0} @List.map_nil.{0,0})) (And.intro (And.intro @List.getD_cons_zero.{0} @List.getD_cons_succ.{0}) (And.intro @List.getElem?_cons_zero.{0} @List.getElem?_cons_succ.{0}))))
theorem TT36 : type_of% (And.intro (And.intro (And.intro (And.intro @List.length_cons.{0} @List.length_nil.{0}) (And.intro @List.drop_succ_cons.{0} @List.drop_zero.{0})) (And.intro (And.intro @List.take_succ_cons.{0} @List.take_zero.{0}) (And.intro @List.take_nil.{0} @List.take_length.{0}))) (And.intro (And.intro (And.intro @List.set_cons_zero.{0} @List.set_cons_succ.{0}) (And.intro @Option.map_some.{0,0} @Option.map_none.{0,0})) (And.intro (And.intro @Option.bind_some.{0,0} @and_true) (And.intro @true_and @Bool.not_true)))) := (And.intro (And.intro (And.intro (And.intro @List.length_cons.{0} @List.length_nil.{0}) (And.intro @List.drop_succ_cons.{0} @List.drop_zero.{0})) (And.intro (And.intro @List.take_succ_cons.{0} @List.take_zero.{0}) (And.intro @List.take_nil.{0} @List.take_length.{0}))) (And.intro (And.intro (And.intro @List.set_cons_zero.{0} @List.set_cons_succ.{0}) (And.intro @Option.map_some.{0,0} @Option.map_none.{0,0})) (And.intro (And.intro @Option.bind_some.{0,0} @and_true) (And.intro @true_and @Bool.not_true))))
theorem TT37 : type_of% (And.intro (And.intro (And.intro (And.intro @Bool.not_false @List.all_cons.{0}) (And.intro @List.all_nil.{0} @Bool.and_true)) (And.intro (And.intro @Bool.true_and @Bool.and_self) (And.intro @not_false_eq_true @Nat.zero_add))) (And.intro (And.intro (And.intro @Nat.le_refl @Nat.add_zero) (And.intro @Nat.zero_mul @Nat.mul_one)) (And.intro (And.intro @Nat.one_mul @Int.toNat_zero) (And.intro @Int.toNat_natCast @List.nil_append.{0})))) := (And.intro (And.intro (And.intro (And.intro @Bool.not_false @List.all_cons.{0}) (And.intro @List.all_nil.{0} @Bool.and_true)) (And.intro (And.intro @Bool.true_and @Bool.and_self) (And.intro @not_false_eq_true @Nat.zero_add))) (And.intro (And.intro (And.intro @Nat.le_refl @Nat.add_zero) (And.intro @Nat.zero_mul @Nat.mul_one)) (And.intro (And.intro @Nat.one_mul @Int.toNat_zero) (And.intro @Int.toNat_natCast @List.nil_append.{0}))))
theorem TT38 : type_of% (And.intro (And.intro (And.intro (And.intro @List.cons_append.{0} @List.append_nil.{0}) (And.intro @cond_true.{1} @cond_false.{1})) (And.intro (And.intro @if_true.{1} @if_false.{1}) (And.intro @List.length_map.{0,0} @List.length_append.{0}))) (And.intro (And.intro (And.intro @not_true_eq_false @decide_eq_true_eq) (And.intro @or_true @true_or)) (And.intro (And.intro @or_false @false_or) (And.intro @ne_eq.{1} @eq_self.{1})))) := (And.intro (And.intro (And.intro (And.intro @List.cons_append.{0} @List.append_nil.{0}) (And.intro @cond_true.{1} @cond_false.{1})) (And.intro (And.intro @if_true.{1} @if_false.{1}) (And.intro @List.length_map.{0,0} @List.length_append.{0}))) (And.intro (And.intro (And.intro @not_true_eq_false @decide_eq_true_eq) (And.intro @or_true @true_or)) (And.intro (And.intro @or_false @false_or) (And.intro @ne_eq.{1} @eq_self.{1}))))
theorem TT39 : type_of% (And.intro @bne_self_eq_false.{0} @beq_self_eq_true.{0}) := (And.intro @bne_self_eq_false.{0} @beq_self_eq_true.{0})
theorem TT : type_of% (And.intro (And.intro (And.intro (And.intro (And.intro @TT0 @TT1) (And.intro @TT2 (And.intro @TT3 @TT4))) (And.intro (And.intro @TT5 @TT6) (And.intro @TT7 (And.intro @TT8 @TT9)))) (And.intro (And.intro (And.intro @TT10 @TT11) (And.intro @TT12 (And.intro @TT13 @TT14))) (And.intro (And.intro @TT15 @TT16) (And.intro @TT17 (And.intro @TT18 @TT19))))) (And.intro (And.intro (And.intro (And.intro @TT20 @TT21) (And.intro @TT22 (And.intro @TT23 @TT24))) (And.intro (And.intro @TT25 @TT26) (And.intro @TT27 (And.intro @TT28 @TT29)))) (And.intro (And.intro (And.intro @TT30 @TT31) (And.intro @TT32 (And.intro @TT33 @TT34))) (And.intro (And.intro @TT35 @TT36) (And.intro @TT37 (And.intro @TT38 @TT39)))))) := (And.intro (And.intro (And.intro (And.intro (And.intro @TT0 @TT1) (And.intro @TT2 (And.intro @TT3 @TT4))) (And.intro (And.intro @TT5 @TT6) (And.intro @TT7 (And.intro @TT8 @TT9)))) (And.intro (And.intro (And.intro @TT10 @TT11) (And.intro @TT12 (And.intro @TT13 @TT14))) (And.intro (And.intro @TT15 @TT16) (And.intro @TT17 (And.intro @TT18 @TT19))))) (And.intro (And.intro (And.intro (And.intro @TT20 @TT21) (And.intro @TT22 (And.intro @TT23 @TT24))) (And.intro (And.intro @TT25 @TT26) (And.intro @TT27 (And.intro @TT28 @TT29)))) (And.intro (And.intro (And.intro @TT30 @TT31) (And.intro @TT32 (And.intro @TT33 @TT34))) (And.intro (And.intro @TT35 @TT36) (And.intro @TT37 (And.intro @TT38 @TT39))))))
end Go.Proofs.Ytdcfoaafkppojaa.Sh
