/- Evaluation of conditions, step by step: printed by a program of ours. -/
import Derived.Test.YtoaohoilkfbdgaaSh7
set_option linter.unusedVariables false
set_option linter.unusedSimpArgs false
namespace Go.Proofs.Ytoaohoilkfbdgaa.Sh
open Go Go.RowKit
abbrev Cont := Fr → Heap → Prop
def goI (P : Program) (i : I) (d : Option Nat) (K : Cont) (fr : Fr) (σ : Heap) : Prop := evI P i (fun v σ' => K (fr.put d v) σ') fr σ
def goD (P : Program) (i : I) (d : Option Nat) (K : Cont) (fr : Fr) (σ : Heap) : Prop := evDI P i (fun v σ' => K (fr.put d v) σ') fr σ
def guI (P : Program) (v : Value) (b : Bool) (i : I) (d : Option Nat) (K : Cont) (fr : Fr) (σ : Heap) : Prop := (v = .bool b → goI P i d K fr σ) ∧ (v ≠ .bool b → K (fr.put d undef) σ)
def guD (P : Program) (v : Value) (b : Bool) (i : I) (d : Option Nat) (K : Cont) (fr : Fr) (σ : Heap) : Prop := (v = .bool b → goD P i d K fr σ) ∧ (v ≠ .bool b → K (fr.put d undef) σ)
section
variable (P : Program) (N : Nat) (i : I) (d : Option Nat) (K : Cont) (fr : Fr) (σ : Heap) (r : List Ins) (Q : Exit → Fr → Heap → Prop) (a b : IC)
theorem evL_nil : evL P [] K = K := rfl
theorem evL_none : evL P (⟨d, i, none⟩ :: r) K fr σ = goI P i d (evL P r K) fr σ := rfl
theorem evL_some (t : Nat) (g : Bool) : evL P (⟨d, i, some (t, g)⟩ :: r) K fr σ = guI P (fr t) g i d (evL P r K) fr σ := rfl
theorem evDL_nil : evDL P [] K = K := rfl
variable (q : List (Ins × List Ins))
theorem evDL_none : evDL P ((⟨d, i, none⟩, []) :: q) K fr σ = goD P i d (evDL P q K) fr σ := rfl
theorem evDL_some (t : Nat) (g : Bool) : evDL P ((⟨d, i, some (t, g)⟩, []) :: q) K fr σ = guD P (fr t) g i d (evDL P q K) fr σ := rfl
def pendK (P : Program) (ys : List Ins) (K : Cont) : Cont := fun fr σ => stables P ys fr σ ∧ K fr σ
theorem pendK_eq (ys : List Ins) : pendK P ys K fr σ = (stables P ys fr σ ∧ K fr σ) := rfl
theorem evDL_pnone (y : Ins) (ys : List Ins) : evDL P ((⟨d, i, none⟩, y :: ys) :: q) K fr σ = goD P i d (pendK P (y :: ys) (evDL P q K)) fr σ := rfl
theorem evDL_psome (t : Nat) (g : Bool) (y : Ins) (ys : List Ins) : evDL P ((⟨d, i, some (t, g)⟩, y :: ys) :: q) K fr σ = guD P (fr t) g i d (pendK P (y :: ys) (evDL P q K)) fr σ := rfl
theorem stables_nil : stables P [] fr σ = True := rfl
theorem stables_cons (y : Ins) (ys : List Ins) : stables P (y :: ys) fr σ = (stable P y fr σ ∧ stables P ys fr σ) := rfl
theorem stable_none (e : Nat) : stable P ⟨some e, i, none⟩ fr σ = goI P i (some e) (fun fr' _ => fr' e = fr e) fr σ := by
  simp [stable, gdP, goI, Fr.put]
theorem stable_some (e t : Nat) (g : Bool) : stable P ⟨some e, i, some (t, g)⟩ fr σ = (fr t = .bool g → goI P i (some e) (fun fr' _ => fr' e = fr e) fr σ) := by
  simp [stable, gdP, goI, Fr.put]
theorem evC_skip : evC P N .skip Q fr σ = Q .normal fr σ := rfl
theorem evC_ops : evC P N (.ops r) Q fr σ = evL P r (Q .normal) fr σ := rfl
theorem evC_draw : evC P N (.draw q) Q fr σ = evDL P q (Q .normal) fr σ := rfl
theorem evC_seq : evC P N (.seq a b) Q fr σ = evC P N a (thenK (evC P N b Q) Q) fr σ := rfl
def cK (P : Program) (N : Nat) (v : Value) (a b : IC) (Q : Exit → Fr → Heap → Prop) (fr : Fr) (σ : Heap) : Prop := kBool v fun t => (t = true → evC P N a Q fr σ) ∧ (t = false → evC P N b Q fr σ)
theorem evC_cond (c : Operand) : evC P N (.cond c a b) Q fr σ = cK P N (evO fr c) a b Q fr σ := rfl
theorem evC_block (id : Nat) : evC P N (.block id a) Q fr σ = evC P N a (blockK id Q) fr σ := rfl
theorem evC_loop : evC P N (.loop a) Q fr σ = SWpI P N (.loop a) Q fr σ := rfl
theorem evC_exit (id : Nat) : evC P N (.exit id) Q fr σ = Q (.exit id) fr σ := rfl
theorem evC_ret : evC P N .ret Q fr σ = Q .ret fr σ := rfl
theorem cK_true : cK P N (.bool true) a b Q fr σ = evC P N a Q fr σ := by simp [cK, kBool]
theorem cK_false : cK P N (.bool false) a b Q fr σ = evC P N b Q fr σ := by simp [cK, kBool]
theorem cK_if {t : Bool} (h1 : t = true → evC P N a Q fr σ) (h2 : t = false → evC P N b Q fr σ) : cK P N (.bool t) a b Q fr σ := ⟨h1, h2⟩
theorem cK_dec {p : Prop} [Decidable p] (h1 : p → evC P N a Q fr σ) (h2 : ¬ p → evC P N b Q fr σ) : cK P N (.bool (decide p)) a b Q fr σ := ⟨fun h => h1 (of_decide_eq_true h), fun h => h2 (of_decide_eq_false h)⟩
theorem guI_eq (g : Bool) : guI P (.bool g) g i d K fr σ = goI P i d K fr σ := by simp [guI]
theorem guI_tf : guI P (.bool true) false i d K fr σ = K (fr.put d undef) σ := by simp [guI]
theorem guI_ft : guI P (.bool false) true i d K fr σ = K (fr.put d undef) σ := by simp [guI]
theorem guI_undef (g : Bool) : guI P undef g i d K fr σ = K (fr.put d undef) σ := by simp [guI, undef]
theorem guI_if {t g : Bool} (h1 : t = g → goI P i d K fr σ) (h2 : t ≠ g → K (fr.put d undef) σ) : guI P (.bool t) g i d K fr σ := ⟨fun h => h1 (by simpa using h), fun h => h2 (by simpa using h)⟩
theorem guD_eq (g : Bool) : guD P (.bool g) g i d K fr σ = goD P i d K fr σ := by simp [guD]
theorem guD_tf : guD P (.bool true) false i d K fr σ = K (fr.put d undef) σ := by simp [guD]
theorem guD_ft : guD P (.bool false) true i d K fr σ = K (fr.put d undef) σ := by simp [guD]
theorem guD_undef (g : Bool) : guD P undef g i d K fr σ = K (fr.put d undef) σ := by simp [guD, undef]
theorem guD_if {t g : Bool} (h1 : t = g → goD P i d K fr σ) (h2 : t ≠ g → K (fr.put d undef) σ) : guD P (.bool t) g i d K fr σ := ⟨fun h => h1 (by simpa using h), fun h => h2 (by simpa using h)⟩
theorem thenK_normal (n : Cont) : thenK n Q .normal = n := rfl
theorem thenK_ret (n : Cont) : thenK n Q .ret = Q .ret := rfl
theorem thenK_exit (n : Cont) (j : Nat) : thenK n Q (.exit j) = Q (.exit j) := rfl
theorem blockK_normal (j : Nat) : blockK j Q .normal = Q .normal := rfl
theorem blockK_ret (j : Nat) : blockK j Q .ret = Q .ret := rfl
theorem blockK_same (j : Nat) : blockK j Q (.exit j) = Q .normal := by simp [blockK]
theorem blockK_exit (j k : Nat) : blockK j Q (.exit k) = if k = j then Q .normal else Q (.exit k) := rfl
theorem bodyK_normal (rs : List R) (Post : Value → Heap → Prop) : bodyK rs Post .normal fr σ = resK rs fr σ fun v => Post v σ := rfl
theorem bodyK_ret (rs : List R) (Post : Value → Heap → Prop) : bodyK rs Post .ret fr σ = resK rs fr σ fun v => Post v σ := rfl
theorem put_get (t s : Nat) (v : Value) : (fr.put (some t) v) s = if s = t then v else fr s := rfl
theorem put_none (v : Value) : fr.put none v = fr := rfl
theorem evO_tmp (t : Nat) : evO fr (.tmp t) = fr t := rfl
theorem evO_const (v : Value) : evO fr (.const v) = v := rfl
theorem evO_func (f : FuncId) : evO fr (.func f) = .func (.func f) #[] #[] := rfl
theorem argFr_at (l : List Value) (t : Nat) : argFr l t = l.getD t undef := rfl
theorem resK_one (x : R) (H : Value → Prop) : resK [x] fr σ H = kOpt (resOne fr σ x) H := rfl
theorem resK_nil (H : Value → Prop) : resK [] fr σ H = H (.tuple #[]) := rfl
theorem resK_two (x y : R) (H : Value → Prop) : resK [x, y] fr σ H = kOpt (resOne fr σ x) fun v => kOpt (resOne fr σ y) fun u => H (.tuple #[v, u]) := by
  simp only [resK, resList]
  cases resOne fr σ x <;> cases resOne fr σ y <;> rfl
theorem resK_three (x y z : R) (H : Value → Prop) : resK [x, y, z] fr σ H = kOpt (resOne fr σ x) fun v => kOpt (resOne fr σ y) fun u => kOpt (resOne fr σ z) fun t => H (.tuple #[v, u, t]) := by
  simp only [resK, resList]
  cases resOne fr σ x <;> cases resOne fr σ y <;> cases resOne fr σ z <;> rfl
theorem resOne_tmp (t : Nat) : resOne fr σ (.tmp t) = some (fr t) := rfl
theorem resOne_cell1 (t : Nat) : resOne fr σ (.cell1 t) = ptrRow (fr t) fun a => σ.load a.block a.off := rfl
theorem resOne_cellN (t n : Nat) : resOne fr σ (.cellN t n) = ptrRow (fr t) fun a => (σ.row a.block a.off n).map fun l => .agg l.toArray := rfl
theorem ptrRow_ptr (a : Addr) (f : Addr → Option Value) : ptrRow (.pointer (some a)) f = f a := rfl
end
section
variable (P : Program) (d : Option Nat) (K : Cont) (fr : Fr) (σ : Heap)
def putK (v : Value) (d : Option Nat) (K : Cont) (fr : Fr) (σ : Heap) : Prop := K (fr.put d v) σ
theorem putK_eq (v : Value) : putK v d K fr σ = K (fr.put d v) σ := rfl
def optK (o : Option Value) (d : Option Nat) (K : Cont) (fr : Fr) (σ : Heap) : Prop := kOpt o fun v => K (fr.put d v) σ
theorem optK_some (v : Value) : optK (some v) d K fr σ = K (fr.put d v) σ := rfl
theorem optK_ite {c : Prop} [Decidable c] (v : Value) : optK (if c then none else some v) d K fr σ = (¬ c ∧ K (fr.put d v) σ) := by
  by_cases h : c <;> simp [optK, kOpt, h]
theorem optK_ite' {c : Prop} [Decidable c] (v : Value) : optK (if c then some v else none) d K fr σ = (c ∧ K (fr.put d v) σ) := by
  by_cases h : c <;> simp [optK, kOpt, h]
def heapK (o : Option Heap) (d : Option Nat) (K : Cont) (fr : Fr) : Prop := kOpt o fun σ' => K (fr.put d undef) σ'
theorem heapK_some : heapK (some σ) d K fr = K (fr.put d undef) σ := rfl
def callK (P : Program) (f : FuncId) (args : List Value) (d : Option Nat) (K : Cont) (fr : Fr) (σ : Heap) : Prop := CallOK P f args σ fun v σ' => K (fr.put d v) σ'
def callDK (P : Program) (f : FuncId) (args : List Value) (d : Option Nat) (K : Cont) (fr : Fr) (σ : Heap) : Prop := CallOK P f args σ fun v σ' => σ.le σ' ∧ K (fr.put d v) σ'
def callvK (P : Program) (v : Value) (args : List Value) (d : Option Nat) (K : Cont) (fr : Fr) (σ : Heap) : Prop := kFun v fun f first captured => CallOK P f (first.toList ++ args ++ captured.toList) σ fun v σ' => K (fr.put d v) σ'
def callvDK (P : Program) (v : Value) (args : List Value) (d : Option Nat) (K : Cont) (fr : Fr) (σ : Heap) : Prop := kFun v fun f first captured => CallOK P f (first.toList ++ args ++ captured.toList) σ fun v σ' => σ.le σ' ∧ K (fr.put d v) σ'
theorem goI_call (f : FuncId) (args : List Operand) : goI P (.call f args) d K fr σ = callK P f (args.map (evO fr)) d K fr σ := rfl
theorem goD_call (f : FuncId) (args : List Operand) : goD P (.call f args) d K fr σ = callDK P f (args.map (evO fr)) d K fr σ := rfl
theorem goI_callv (x : Operand) (args : List Operand) : goI P (.callv x args) d K fr σ = callvK P (evO fr x) (args.map (evO fr)) d K fr σ := rfl
theorem goD_callv (x : Operand) (args : List Operand) : goD P (.callv x args) d K fr σ = callvDK P (evO fr x) (args.map (evO fr)) d K fr σ := rfl
theorem goI_callW (f : FuncId) (args : List Operand) : goI P (.callW f args) d K fr σ = callK P f (args.map (evO fr)) d K fr σ := rfl
theorem goD_callW (f : FuncId) (args : List Operand) : goD P (.callW f args) d K fr σ = callK P f (args.map (evO fr)) d K fr σ := rfl
theorem goI_callvW (x : Operand) (args : List Operand) : goI P (.callvW x args) d K fr σ = callvK P (evO fr x) (args.map (evO fr)) d K fr σ := rfl
theorem goD_callvW (x : Operand) (args : List Operand) : goD P (.callvW x args) d K fr σ = callvK P (evO fr x) (args.map (evO fr)) d K fr σ := rfl
theorem callvK_func (f : FuncId) (first captured : Array Value) (args : List Value) : callvK P (.func (.func f) first captured) args d K fr σ = callK P f (first.toList ++ args ++ captured.toList) d K fr σ := rfl
theorem callvDK_func (f : FuncId) (first captured : Array Value) (args : List Value) : callvDK P (.func (.func f) first captured) args d K fr σ = callDK P f (first.toList ++ args ++ captured.toList) d K fr σ := rfl

def ldK (x : Value) (d : Option Nat) (K : Cont) (fr : Fr) (σ : Heap) : Prop := kPtr x fun a => kOpt (σ.load a.block a.off) fun v => K (fr.put d v) σ
theorem ldK_ptr (a : Addr) : ldK (.pointer (some a)) d K fr σ = optK (σ.load a.block a.off) d K fr σ := rfl
def rowK (n : Nat) (x : Value) (d : Option Nat) (K : Cont) (fr : Fr) (σ : Heap) : Prop := kPtr x fun a => kOpt (σ.row a.block a.off n) fun vs => K (fr.put d (.agg vs.toArray)) σ
def aggK (o : Option (List Value)) (d : Option Nat) (K : Cont) (fr : Fr) (σ : Heap) : Prop := kOpt o fun vs => K (fr.put d (.agg vs.toArray)) σ
theorem aggK_some (vs : List Value) : aggK (some vs) d K fr σ = K (fr.put d (.agg vs.toArray)) σ := rfl
theorem rowK_ptr (n : Nat) (a : Addr) : rowK n (.pointer (some a)) d K fr σ = aggK (σ.row a.block a.off n) d K fr σ := rfl
def stK (n : Nat) (p x : Value) (d : Option Nat) (K : Cont) (fr : Fr) (σ : Heap) : Prop := kPtr p fun p => x.cells.size = n ∧ kOpt (σ.store p.block p.off x.cells.toList) fun σ' => K (fr.put d undef) σ'
theorem stK_ptr (n : Nat) (p : Addr) (x : Value) : stK n (.pointer (some p)) x d K fr σ = (x.cells.size = n ∧ heapK (σ.store p.block p.off x.cells.toList) d K fr) := rfl
def pickK (c a b : Value) (d : Option Nat) (K : Cont) (fr : Fr) (σ : Heap) : Prop := kBool c fun t => K (fr.put d (bif t then a else b)) σ
theorem pickK_bool (c : Bool) (a b : Value) : pickK (.bool c) a b d K fr σ = K (fr.put d (bif c then a else b)) σ := rfl
def boxK (t : TypeId) (x : Value) (d : Option Nat) (K : Cont) (fr : Fr) (σ : Heap) : Prop := (∀ j, j < x.cells.size → scalar (x.cells.getD j undef) = true) ∧ K (fr.put d (.pointer (some ⟨σ.next, 0, none⟩))) (σ.push (.cells t x.cells.toList true))
theorem boxK_agg (t : TypeId) (l : List Value) : boxK t (.agg l.toArray) d K fr σ = (l.all scalar = true ∧ K (fr.put d (.pointer (some ⟨σ.next, 0, none⟩))) (σ.push (.cells t l true))) := by
  have e : (∀ j, j < (Value.agg l.toArray).cells.size → scalar ((Value.agg l.toArray).cells.getD j undef) = true) ↔ l.all scalar = true := by
    simp only [Value.cells, List.size_toArray, toArray_getD, List.all_eq_true]
    constructor
    · intro h x hx
      obtain ⟨i, hi, rfl⟩ := List.mem_iff_getElem.1 hx
      have := h i hi
      simpa [List.getD, hi] using this
    · intro h j hj
      have := h l[j] (List.getElem_mem hj)
      simpa [List.getD, hj] using this
  simp only [boxK, eq_iff_iff]
  rw [e]
  simp [Value.cells]
theorem boxK_agg' (t : TypeId) (l : Array Value) : boxK t (.agg l) d K fr σ = (l.toList.all scalar = true ∧ K (fr.put d (.pointer (some ⟨σ.next, 0, none⟩))) (σ.push (.cells t l.toList true))) := by
  cases l; exact boxK_agg _ _ _ _ _ _
theorem boxK_one (t : TypeId) (v : Value) (h : scalar v = true) : boxK t v d K fr σ = K (fr.put d (.pointer (some ⟨σ.next, 0, none⟩))) (σ.push (.cells t [v] true)) := by
  have e : v.cells = #[v] := by cases v <;> first | rfl | cases h
  have : (∀ j, j < v.cells.size → scalar (v.cells.getD j undef) = true) ↔ True := by
    rw [e]; refine ⟨fun _ => trivial, fun _ j hj => ?_⟩
    obtain rfl : j = 0 := by simpa using hj
    simpa using h
  rw [boxK, eq_iff_iff, this, true_and, e]
def chkK (x : Value) (d : Option Nat) (K : Cont) (fr : Fr) (σ : Heap) : Prop := kChk x (K (fr.put d x) σ)
theorem chkK_ptr (a : Addr) : chkK (.pointer (some a)) d K fr σ = K (fr.put d (.pointer (some a))) σ := rfl
theorem chkK_func (f : FuncId) (a b : Array Value) : chkK (.func (.func f) a b) d K fr σ = K (fr.put d (.func (.func f) a b)) σ := rfl
def eqBK (neg : Bool) (x y : Value) (d : Option Nat) (K : Cont) (fr : Fr) (σ : Heap) : Prop := kBool x fun p => kBool y fun q => K (fr.put d (.bool (bif neg then p != q else p == q))) σ
theorem eqBK_bool (neg p q : Bool) : eqBK neg (.bool p) (.bool q) d K fr σ = K (fr.put d (.bool (bif neg then p != q else p == q))) σ := rfl
def isNilK (neg : Bool) (o : Option Bool) (d : Option Nat) (K : Cont) (fr : Fr) (σ : Heap) : Prop := kOpt o fun b => K (fr.put d (.bool (bif neg then !b else b))) σ
theorem isNilK_some (neg b : Bool) : isNilK neg (some b) d K fr σ = K (fr.put d (.bool (bif neg then !b else b))) σ := rfl
def convK (k : IntKind) (x : Value) (d : Option Nat) (K : Cont) (fr : Fr) (σ : Heap) : Prop := kInt x fun _ n => K (fr.put d (.int k (k.wrap n))) σ
theorem convK_int (k j : IntKind) (n : Int) : convK k (.int j n) d K fr σ = K (fr.put d (.int k (k.wrap n))) σ := rfl
def convSK (x : Value) (d : Option Nat) (K : Cont) (fr : Fr) (σ : Heap) : Prop := kStr x fun _ => K (fr.put d x) σ
theorem convSK_str (s : ByteArray) : convSK (.string s) d K fr σ = K (fr.put d (.string s)) σ := rfl
def faK (off : Nat) (x : Value) (d : Option Nat) (K : Cont) (fr : Fr) (σ : Heap) : Prop := kPtr x fun a => K (fr.put d (.pointer (some ⟨a.block, a.off + off, none⟩))) σ
theorem faK_ptr (off : Nat) (a : Addr) : faK off (.pointer (some a)) d K fr σ = K (fr.put d (.pointer (some ⟨a.block, a.off + off, none⟩))) σ := rfl
def f1K (off : Nat) (x : Value) (d : Option Nat) (K : Cont) (fr : Fr) (σ : Heap) : Prop := kAgg x fun cs => off < cs.size ∧ K (fr.put d (cs.getD off undef)) σ
theorem f1K_agg (off : Nat) (cs : Array Value) : f1K off (.agg cs) d K fr σ = (off < cs.size ∧ K (fr.put d (cs.getD off undef)) σ) := rfl
def fnK (off n : Nat) (x : Value) (d : Option Nat) (K : Cont) (fr : Fr) (σ : Heap) : Prop := kAgg x fun cs => off + n ≤ cs.size ∧ K (fr.put d (.agg (cs.extract off (off + n)))) σ
theorem fnK_agg (off n : Nat) (cs : Array Value) : fnK off n (.agg cs) d K fr σ = (off + n ≤ cs.size ∧ K (fr.put d (.agg (cs.extract off (off + n)))) σ) := rfl
def ixPK (len sz : Nat) (x i : Value) (d : Option Nat) (K : Cont) (fr : Fr) (σ : Heap) : Prop := kPtr x fun a => kInt i fun _ n => (0 ≤ n ∧ n < len) ∧ K (fr.put d (.pointer (some ⟨a.block, a.off + n.toNat * sz, none⟩))) σ
theorem ixPK_int (len sz : Nat) (a : Addr) (k : IntKind) (n : Int) : ixPK len sz (.pointer (some a)) (.int k n) d K fr σ = ((0 ≤ n ∧ n < len) ∧ K (fr.put d (.pointer (some ⟨a.block, a.off + n.toNat * sz, none⟩))) σ) := rfl
def ixSK (sz : Nat) (x i : Value) (d : Option Nat) (K : Cont) (fr : Fr) (σ : Heap) : Prop := kSl x fun a len _ => kInt i fun _ n => (0 ≤ n ∧ n < len) ∧ K (fr.put d (.pointer (some ⟨a.block, a.off + n.toNat * sz, none⟩))) σ
theorem ixSK_int (sz : Nat) (a : Addr) (len s : Nat) (k : IntKind) (n : Int) : ixSK sz (.slice (some a) len s) (.int k n) d K fr σ = ((0 ≤ n ∧ n < len) ∧ K (fr.put d (.pointer (some ⟨a.block, a.off + n.toNat * sz, none⟩))) σ) := rfl
def ixStrK (x i : Value) (d : Option Nat) (K : Cont) (fr : Fr) (σ : Heap) : Prop := kStr x fun s => kInt i fun _ n => (0 ≤ n ∧ n < s.size) ∧ K (fr.put d (.int .u8 (s.data.getD n.toNat 0).toNat)) σ
theorem ixStrK_int (s : ByteArray) (k : IntKind) (n : Int) : ixStrK (.string s) (.int k n) d K fr σ = ((0 ≤ n ∧ n < s.size) ∧ K (fr.put d (.int .u8 (s.data.getD n.toNat 0).toNat)) σ) := rfl
def slStrK (x : Value) (lo hi : Option Value) (d : Option Nat) (K : Cont) (fr : Fr) (σ : Heap) : Prop := kStr x fun s => kOpt (bounds s.size lo hi) fun lh => K (fr.put d (.string (s.extract lh.1 lh.2))) σ
def strK (s : ByteArray) (o : Option (Nat × Nat)) (d : Option Nat) (K : Cont) (fr : Fr) (σ : Heap) : Prop := kOpt o fun lh => K (fr.put d (.string (s.extract lh.1 lh.2))) σ
theorem slStrK_str (s : ByteArray) (lo hi : Option Value) : slStrK (.string s) lo hi d K fr σ = strK s (bounds s.size lo hi) d K fr σ := rfl
theorem strK_some (s : ByteArray) (l h : Nat) : strK s (some (l, h)) d K fr σ = K (fr.put d (.string (s.extract l h))) σ := rfl
theorem strK_ite (s : ByteArray) (l h : Nat) {c : Prop} [Decidable c] : strK s (if c then some (l, h) else none) d K fr σ = (c ∧ K (fr.put d (.string (s.extract l h))) σ) := by
  by_cases h : c <;> simp [strK, kOpt, h]
def slSlK (sz : Nat) (x : Value) (lo hi : Option Value) (d : Option Nat) (K : Cont) (fr : Fr) (σ : Heap) : Prop := kSl x fun a len s => s = sz ∧ kOpt (bounds len lo hi) fun lh => K (fr.put d (.slice (some ⟨a.block, a.off + lh.1 * sz, none⟩) (lh.2 - lh.1) sz)) σ
def slK (sz : Nat) (a : Addr) (o : Option (Nat × Nat)) (d : Option Nat) (K : Cont) (fr : Fr) (σ : Heap) : Prop := kOpt o fun lh => K (fr.put d (.slice (some ⟨a.block, a.off + lh.1 * sz, none⟩) (lh.2 - lh.1) sz)) σ
theorem slSlK_sl (sz : Nat) (a : Addr) (len s : Nat) (lo hi : Option Value) : slSlK sz (.slice (some a) len s) lo hi d K fr σ = (s = sz ∧ slK sz a (bounds len lo hi) d K fr σ) := rfl
theorem slK_some (sz : Nat) (a : Addr) (l h : Nat) : slK sz a (some (l, h)) d K fr σ = K (fr.put d (.slice (some ⟨a.block, a.off + l * sz, none⟩) (h - l) sz)) σ := rfl
theorem slK_ite (sz : Nat) (a : Addr) (l h : Nat) {c : Prop} [Decidable c] : slK sz a (if c then some (l, h) else none) d K fr σ = (c ∧ K (fr.put d (.slice (some ⟨a.block, a.off + l * sz, none⟩) (h - l) sz)) σ) := by
  by_cases h : c <;> simp [slK, kOpt, h]
def lenSK (x : Value) (d : Option Nat) (K : Cont) (fr : Fr) (σ : Heap) : Prop := kStr x fun s => K (fr.put d (.int .i64 s.size)) σ
theorem lenSK_str (s : ByteArray) : lenSK (.string s) d K fr σ = K (fr.put d (.int .i64 s.size)) σ := rfl
def lenLK (x : Value) (d : Option Nat) (K : Cont) (fr : Fr) (σ : Heap) : Prop := kSlN x fun n => K (fr.put d (.int .i64 n)) σ
theorem lenLK_sl (a : Option Addr) (n s : Nat) : lenLK (.slice a n s) d K fr σ = K (fr.put d (.int .i64 n)) σ := rfl
def minK (x y : Value) (d : Option Nat) (K : Cont) (fr : Fr) (σ : Heap) : Prop := kInt x fun k a => kInt y fun _ b => K (fr.put d (.int k (if b < a then b else a))) σ
theorem minK_int (k j : IntKind) (a b : Int) : minK (.int k a) (.int j b) d K fr σ = K (fr.put d (.int k (if b < a then b else a))) σ := rfl
def maxK (x y : Value) (d : Option Nat) (K : Cont) (fr : Fr) (σ : Heap) : Prop := kInt x fun k a => kInt y fun _ b => K (fr.put d (.int k (if a < b then b else a))) σ
theorem maxK_int (k j : IntKind) (a b : Int) : maxK (.int k a) (.int j b) d K fr σ = K (fr.put d (.int k (if a < b then b else a))) σ := rfl
def exK (x : Value) (i : Nat) (d : Option Nat) (K : Cont) (fr : Fr) (σ : Heap) : Prop := kTup x fun vs => i < vs.size ∧ K (fr.put d (vs.getD i undef)) σ
theorem exK_tuple (vs : Array Value) (i : Nat) : exK (.tuple vs) i d K fr σ = (i < vs.size ∧ K (fr.put d (vs.getD i undef)) σ) := rfl
def bslK (t : TypeId) (sz len : Nat) (o : Option (List Value)) (d : Option Nat) (K : Cont) (fr : Fr) (σ : Heap) : Prop := kOpt o fun cs => cs.all scalar = true ∧ K (fr.put d (.slice (some ⟨σ.next, 0, none⟩) len sz)) (σ.push (.cells t cs true))
theorem bslK_some (t : TypeId) (sz len : Nat) (cs : List Value) : bslK t sz len (some cs) d K fr σ = (cs.all scalar = true ∧ K (fr.put d (.slice (some ⟨σ.next, 0, none⟩) len sz)) (σ.push (.cells t cs true))) := rfl
def mslK (t : TypeId) (bytes : Nat) (zero : List Value) (l c : Value) (d : Option Nat) (K : Cont) (fr : Fr) (σ : Heap) : Prop := kInt l fun _ n => kInt c fun _ k => (0 ≤ n ∧ n ≤ k ∧ k * bytes ≤ 140737488355328 ∧ k ≤ 9223372036854775807) ∧
      K (fr.put d (.slice (some ⟨σ.next, 0, none⟩) n.toNat zero.length)) (σ.push (.cells t (reps n.toNat zero) true))
theorem mslK_int (t : TypeId) (bytes : Nat) (zero : List Value) (j j' : IntKind) (n k : Int) : mslK t bytes zero (.int j n) (.int j' k) d K fr σ = ((0 ≤ n ∧ n ≤ k ∧ k * bytes ≤ 140737488355328 ∧ k ≤ 9223372036854775807) ∧
      K (fr.put d (.slice (some ⟨σ.next, 0, none⟩) n.toNat zero.length)) (σ.push (.cells t (reps n.toNat zero) true))) := rfl
def apK (t : TypeId) (sz bytes : Nat) (s x : Value) (d : Option Nat) (K : Cont) (fr : Fr) (σ : Heap) : Prop := kSlCase x (kSlCase s (K (fr.put d s) σ) fun _ _ _ => K (fr.put d s) σ) fun a m sx =>
      (m = 0 → kSlCase s (K (fr.put d s) σ) fun _ _ _ => K (fr.put d s) σ) ∧ (m ≠ 0 → sx = sz ∧ kOpt (σ.row a.block a.off (m * sz)) fun news => appK σ t sz bytes s m news (fun v σ' => K (fr.put d v) σ'))
def apSK (t : TypeId) (s x : Value) (d : Option Nat) (K : Cont) (fr : Fr) (σ : Heap) : Prop := kStr x fun str => (str.size = 0 → kSlCase s (K (fr.put d s) σ) fun _ _ _ => K (fr.put d s) σ) ∧ (str.size ≠ 0 → appK σ t 1 1 s str.size (strVals str) (fun v σ' => K (fr.put d v) σ'))
/-- What is added, onto nothing, or onto a row. -/
def appX (σ : Heap) (t : TypeId) (sz bytes : Nat) (s : Value) (m : Nat) (news : List Value) (d : Option Nat) (K : Cont) (fr : Fr) : Prop := appK σ t sz bytes s m news (fun v σ' => K (fr.put d v) σ')
theorem appX_nil (t : TypeId) (sz bytes n s m : Nat) (news : List Value) : appX σ t sz bytes (.slice none n s) m news d K fr = ((m * bytes ≤ 140737488355328 ∧ m ≤ maxLen) ∧ K (fr.put d (.slice (some ⟨σ.next, 0, none⟩) m sz)) (σ.push (.cells t news true))) := rfl
theorem appX_some (t : TypeId) (sz bytes g n s m : Nat) (news cs : List Value) (h : σ.rwRow t g = some cs) : appX σ t sz bytes (.slice (some ⟨g, 0, none⟩) n s) m news d K fr =
    (s = sz ∧ (n * sz ≤ cs.length ∧ (n + m) * bytes ≤ 140737488355328 ∧ n + m ≤ maxLen) ∧ K (fr.put d (.slice (some ⟨σ.next, 0, none⟩) (n + m) sz)) ((σ.set g .dead).push (.cells t (cs.take (n * sz) ++ news) true))) := by
  simp [appX, appK, kSlCase, kOpt, h]
theorem apK_one (t : TypeId) (sz bytes m sx : Nat) (s : Value) (a : Addr) (news : List Value) (hm : m ≠ 0) (h : σ.row a.block a.off (m * sz) = some news) : apK t sz bytes s (.slice (some a) m sx) d K fr σ = (sx = sz ∧ appX σ t sz bytes s m news d K fr) := by
  simp [apK, kSlCase, hm, h, kOpt, appX]
theorem apSK_str (t : TypeId) (s : Value) (str : ByteArray) (h : str.size ≠ 0) : apSK t s (.string str) d K fr σ = appX σ t 1 1 s str.size (strVals str) d K fr := by
  simp [apSK, kStr, h, appX]
theorem apSK_none (t : TypeId) (a : Option Addr) (n s : Nat) (str : ByteArray) (h : str.size = 0) : apSK t (.slice a n s) (.string str) d K fr σ = K (fr.put d (.slice a n s)) σ := by
  cases a <;> simp [apSK, kStr, h, kSlCase]
def tbK (t : TypeId) (x : Value) (d : Option Nat) (K : Cont) (fr : Fr) (σ : Heap) : Prop := kStr x fun s => K (fr.put d (.slice (some ⟨σ.next, 0, none⟩) s.size 1)) (σ.push (.cells t (strVals s) true))
theorem tbK_str (t : TypeId) (s : ByteArray) : tbK t (.string s) d K fr σ = K (fr.put d (.slice (some ⟨σ.next, 0, none⟩) s.size 1)) (σ.push (.cells t (strVals s) true)) := rfl
def tsK (x : Value) (d : Option Nat) (K : Cont) (fr : Fr) (σ : Heap) : Prop := kSlCase x (K (fr.put d (.string ⟨#[]⟩)) σ) fun a n s => (n = 0 → K (fr.put d (.string ⟨#[]⟩)) σ) ∧ (n ≠ 0 → kOpt ((σ.row a.block a.off n).bind bytesOf) fun bs => K (fr.put d (.string ⟨bs.toArray⟩)) σ)
theorem tsK_nil (n s : Nat) : tsK (.slice none n s) d K fr σ = K (fr.put d (.string ⟨#[]⟩)) σ := rfl
theorem tsK_sl (a : Addr) (n s : Nat) (bs : List UInt8) (h : (σ.row a.block a.off n).bind bytesOf = some bs) (hl : bs.length = n) : tsK (.slice (some a) n s) d K fr σ = K (fr.put d (.string ⟨bs.toArray⟩)) σ := by
  cases bs with
  | nil => simp at hl; subst hl; simp [tsK, kSlCase]
  | cons x r => have : n ≠ 0 := by simp at hl; omega
                simp [tsK, kSlCase, this, h, kOpt]
def ixAK (len : Nat) (x i : Value) (d : Option Nat) (K : Cont) (fr : Fr) (σ : Heap) : Prop := kAgg x fun cs => kInt i fun _ n => (0 ≤ n ∧ n < len ∧ len ≤ cs.size) ∧ K (fr.put d (cs.getD n.toNat undef)) σ
theorem ixAK_int (len : Nat) (cs : Array Value) (k : IntKind) (n : Int) : ixAK len (.agg cs) (.int k n) d K fr σ = ((0 ≤ n ∧ n < len ∧ len ≤ cs.size) ∧ K (fr.put d (cs.getD n.toNat undef)) σ) := rfl
def ixANK (len sz : Nat) (x i : Value) (d : Option Nat) (K : Cont) (fr : Fr) (σ : Heap) : Prop := kAgg x fun cs => kInt i fun _ n => (0 ≤ n ∧ n < len ∧ len * sz ≤ cs.size) ∧ K (fr.put d (.agg (cs.extract (n.toNat * sz) (n.toNat * sz + sz)))) σ
theorem ixANK_int (len sz : Nat) (cs : Array Value) (k : IntKind) (n : Int) : ixANK len sz (.agg cs) (.int k n) d K fr σ = ((0 ≤ n ∧ n < len ∧ len * sz ≤ cs.size) ∧ K (fr.put d (.agg (cs.extract (n.toNat * sz) (n.toNat * sz + sz)))) σ) := rfl
def eqFK (neg : Bool) (ks : List FK) (x y : Value) (d : Option Nat) (K : Cont) (fr : Fr) (σ : Heap) : Prop := kAgg x fun p => kAgg y fun q => kOpt (eqCells ks p.toList q.toList) fun b => K (fr.put d (.bool (bif neg then !b else b))) σ
theorem eqFK_agg (neg : Bool) (ks : List FK) (p q : Array Value) : eqFK neg ks (.agg p) (.agg q) d K fr σ = isNilK neg (eqCells ks p.toList q.toList) d K fr σ := rfl

theorem goI_mov (x : Operand) : goI P (.mov x) d K fr σ = putK (evO fr x) d K fr σ := rfl
theorem goD_mov (x : Operand) : goD P (.mov x) d K fr σ = goI P (.mov x) d K fr σ := rfl
theorem goI_pick (c a b : Operand) : goI P (.pick c a b) d K fr σ = pickK (evO fr c) (evO fr a) (evO fr b) d K fr σ := rfl
theorem goD_pick (c a b : Operand) : goD P (.pick c a b) d K fr σ = goI P (.pick c a b) d K fr σ := rfl
theorem goI_box (t : TypeId) (n : Nat) (x : Operand) : goI P (.box t n x) d K fr σ = boxK t (evO fr x) d K fr σ := rfl
theorem goD_box (t : TypeId) (n : Nat) (x : Operand) : goD P (.box t n x) d K fr σ = goI P (.box t n x) d K fr σ := rfl
theorem goI_load1 (x : Operand) : goI P (.load1 x) d K fr σ = ldK (evO fr x) d K fr σ := rfl
theorem goD_load1 (x : Operand) : goD P (.load1 x) d K fr σ = goI P (.load1 x) d K fr σ := rfl
theorem goI_loadN (n : Nat) (x : Operand) : goI P (.loadN n x) d K fr σ = rowK n (evO fr x) d K fr σ := rfl
theorem goD_loadN (n : Nat) (x : Operand) : goD P (.loadN n x) d K fr σ = goI P (.loadN n x) d K fr σ := rfl
theorem goI_store (n : Nat) (a x : Operand) : goI P (.store n a x) d K fr σ = stK n (evO fr a) (evO fr x) d K fr σ := rfl
theorem goD_store (n : Nat) (a x : Operand) : goD P (.store n a x) d K fr σ = goI P (.store n a x) d K fr σ := rfl
theorem goI_nilchk (x : Operand) : goI P (.nilchk x) d K fr σ = chkK (evO fr x) d K fr σ := rfl
theorem goD_nilchk (x : Operand) : goD P (.nilchk x) d K fr σ = goI P (.nilchk x) d K fr σ := rfl
theorem goI_bin (op : BinOp) (x y : Operand) : goI P (.bin op x y) d K fr σ = optK (vbin op (evO fr x) (evO fr y)) d K fr σ := rfl
theorem goD_bin (op : BinOp) (x y : Operand) : goD P (.bin op x y) d K fr σ = goI P (.bin op x y) d K fr σ := rfl
theorem goI_eqB (neg : Bool) (x y : Operand) : goI P (.eqB neg x y) d K fr σ = eqBK neg (evO fr x) (evO fr y) d K fr σ := rfl
theorem goD_eqB (neg : Bool) (x y : Operand) : goD P (.eqB neg x y) d K fr σ = goI P (.eqB neg x y) d K fr σ := rfl
theorem goI_isNil (k : NK) (neg : Bool) (x : Operand) : goI P (.isNil k neg x) d K fr σ = isNilK neg (vnil k (evO fr x)) d K fr σ := rfl
theorem goD_isNil (k : NK) (neg : Bool) (x : Operand) : goD P (.isNil k neg x) d K fr σ = goI P (.isNil k neg x) d K fr σ := rfl
theorem goI_un (op : UnOp) (x : Operand) : goI P (.un op x) d K fr σ = optK (vun op (evO fr x)) d K fr σ := rfl
theorem goD_un (op : UnOp) (x : Operand) : goD P (.un op x) d K fr σ = goI P (.un op x) d K fr σ := rfl
theorem goI_conv (k : IntKind) (x : Operand) : goI P (.conv k x) d K fr σ = convK k (evO fr x) d K fr σ := rfl
theorem goD_conv (k : IntKind) (x : Operand) : goD P (.conv k x) d K fr σ = goI P (.conv k x) d K fr σ := rfl
theorem goI_convS (x : Operand) : goI P (.convS x) d K fr σ = convSK (evO fr x) d K fr σ := rfl
theorem goD_convS (x : Operand) : goD P (.convS x) d K fr σ = goI P (.convS x) d K fr σ := rfl
theorem goI_fieldAddr (off : Nat) (x : Operand) : goI P (.fieldAddr off x) d K fr σ = faK off (evO fr x) d K fr σ := rfl
theorem goD_fieldAddr (off : Nat) (x : Operand) : goD P (.fieldAddr off x) d K fr σ = goI P (.fieldAddr off x) d K fr σ := rfl
theorem goI_field1 (off : Nat) (x : Operand) : goI P (.field1 off x) d K fr σ = f1K off (evO fr x) d K fr σ := rfl
theorem goD_field1 (off : Nat) (x : Operand) : goD P (.field1 off x) d K fr σ = goI P (.field1 off x) d K fr σ := rfl
theorem goI_fieldN (off n : Nat) (x : Operand) : goI P (.fieldN off n x) d K fr σ = fnK off n (evO fr x) d K fr σ := rfl
theorem goD_fieldN (off n : Nat) (x : Operand) : goD P (.fieldN off n x) d K fr σ = goI P (.fieldN off n x) d K fr σ := rfl
theorem goI_indexPtr (len sz : Nat) (x i : Operand) : goI P (.indexPtr len sz x i) d K fr σ = ixPK len sz (evO fr x) (evO fr i) d K fr σ := rfl
theorem goD_indexPtr (len sz : Nat) (x i : Operand) : goD P (.indexPtr len sz x i) d K fr σ = goI P (.indexPtr len sz x i) d K fr σ := rfl
theorem goI_indexSl (sz : Nat) (x i : Operand) : goI P (.indexSl sz x i) d K fr σ = ixSK sz (evO fr x) (evO fr i) d K fr σ := rfl
theorem goD_indexSl (sz : Nat) (x i : Operand) : goD P (.indexSl sz x i) d K fr σ = goI P (.indexSl sz x i) d K fr σ := rfl
theorem goI_indexStr (x i : Operand) : goI P (.indexStr x i) d K fr σ = ixStrK (evO fr x) (evO fr i) d K fr σ := rfl
theorem goD_indexStr (x i : Operand) : goD P (.indexStr x i) d K fr σ = goI P (.indexStr x i) d K fr σ := rfl
theorem goI_sliceStr (x : Operand) (lo hi : Option Operand) : goI P (.sliceStr x lo hi) d K fr σ = slStrK (evO fr x) (lo.map (evO fr)) (hi.map (evO fr)) d K fr σ := rfl
theorem goD_sliceStr (x : Operand) (lo hi : Option Operand) : goD P (.sliceStr x lo hi) d K fr σ = goI P (.sliceStr x lo hi) d K fr σ := rfl
theorem goI_sliceSl (sz : Nat) (x : Operand) (lo hi : Option Operand) : goI P (.sliceSl sz x lo hi) d K fr σ = slSlK sz (evO fr x) (lo.map (evO fr)) (hi.map (evO fr)) d K fr σ := rfl
theorem goD_sliceSl (sz : Nat) (x : Operand) (lo hi : Option Operand) : goD P (.sliceSl sz x lo hi) d K fr σ = goI P (.sliceSl sz x lo hi) d K fr σ := rfl
theorem goI_lenS (x : Operand) : goI P (.lenS x) d K fr σ = lenSK (evO fr x) d K fr σ := rfl
theorem goD_lenS (x : Operand) : goD P (.lenS x) d K fr σ = goI P (.lenS x) d K fr σ := rfl
theorem goI_lenL (x : Operand) : goI P (.lenL x) d K fr σ = lenLK (evO fr x) d K fr σ := rfl
theorem goD_lenL (x : Operand) : goD P (.lenL x) d K fr σ = goI P (.lenL x) d K fr σ := rfl
theorem goI_min (x y : Operand) : goI P (.min x y) d K fr σ = minK (evO fr x) (evO fr y) d K fr σ := rfl
theorem goD_min (x y : Operand) : goD P (.min x y) d K fr σ = goI P (.min x y) d K fr σ := rfl
theorem goI_max (x y : Operand) : goI P (.max x y) d K fr σ = maxK (evO fr x) (evO fr y) d K fr σ := rfl
theorem goD_max (x y : Operand) : goD P (.max x y) d K fr σ = goI P (.max x y) d K fr σ := rfl
theorem goI_mkFunc (fn : Fn) (first captured : List Operand) : goI P (.mkFunc fn first captured) d K fr σ = putK (.func fn (first.map (evO fr)).toArray (captured.map (evO fr)).toArray) d K fr σ := rfl
theorem goD_mkFunc (fn : Fn) (first captured : List Operand) : goD P (.mkFunc fn first captured) d K fr σ = goI P (.mkFunc fn first captured) d K fr σ := rfl
theorem goI_extract (x : Operand) (i : Nat) : goI P (.extract x i) d K fr σ = exK (evO fr x) i d K fr σ := rfl
theorem goD_extract (x : Operand) (i : Nat) : goD P (.extract x i) d K fr σ = goI P (.extract x i) d K fr σ := rfl
theorem goI_build (zero : List Value) (parts : List (Nat × Nat × Operand)) : goI P (.build zero parts) d K fr σ = optK ((fillS zero (parts.map fun p => (p.1, p.2.1, evO fr p.2.2))).map fun cs => .agg cs.toArray) d K fr σ := by
  simp only [goI, evI, optK]
  cases fillS zero (parts.map fun p => (p.1, p.2.1, evO fr p.2.2)) <;> rfl
theorem goD_build (zero : List Value) (parts : List (Nat × Nat × Operand)) : goD P (.build zero parts) d K fr σ = goI P (.build zero parts) d K fr σ := rfl
theorem goI_buildSl (t : TypeId) (sz len : Nat) (zeros : List Value) (parts : List (Nat × Nat × Operand)) : goI P (.buildSl t sz len zeros parts) d K fr σ = bslK t sz len (fillS zeros (parts.map fun p => (p.1, p.2.1, evO fr p.2.2))) d K fr σ := rfl
theorem goD_buildSl (t : TypeId) (sz len : Nat) (zeros : List Value) (parts : List (Nat × Nat × Operand)) : goD P (.buildSl t sz len zeros parts) d K fr σ = goI P (.buildSl t sz len zeros parts) d K fr σ := rfl
theorem goI_makeSl (t : TypeId) (bytes : Nat) (zero : List Value) (l c : Operand) : goI P (.makeSl t bytes zero l c) d K fr σ = mslK t bytes zero (evO fr l) (evO fr c) d K fr σ := rfl
theorem goD_makeSl (t : TypeId) (bytes : Nat) (zero : List Value) (l c : Operand) : goD P (.makeSl t bytes zero l c) d K fr σ = goI P (.makeSl t bytes zero l c) d K fr σ := rfl
theorem goI_append (t : TypeId) (sz bytes : Nat) (s x : Operand) : goI P (.append t sz bytes s x) d K fr σ = apK t sz bytes (evO fr s) (evO fr x) d K fr σ := rfl
theorem goD_append (t : TypeId) (sz bytes : Nat) (s x : Operand) : goD P (.append t sz bytes s x) d K fr σ = goI P (.append t sz bytes s x) d K fr σ := rfl
theorem goI_appendS (t : TypeId) (s x : Operand) : goI P (.appendS t s x) d K fr σ = apSK t (evO fr s) (evO fr x) d K fr σ := rfl
theorem goD_appendS (t : TypeId) (s x : Operand) : goD P (.appendS t s x) d K fr σ = goI P (.appendS t s x) d K fr σ := rfl
theorem goI_toBytes (t : TypeId) (x : Operand) : goI P (.toBytes t x) d K fr σ = tbK t (evO fr x) d K fr σ := rfl
theorem goD_toBytes (t : TypeId) (x : Operand) : goD P (.toBytes t x) d K fr σ = goI P (.toBytes t x) d K fr σ := rfl
theorem goI_toStr (x : Operand) : goI P (.toStr x) d K fr σ = tsK (evO fr x) d K fr σ := rfl
theorem goD_toStr (x : Operand) : goD P (.toStr x) d K fr σ = goI P (.toStr x) d K fr σ := rfl
theorem goI_mkMap  : goI P .mkMap d K fr σ = K (fr.put d (.map (some σ.next))) (σ.push (.map [])) := rfl
theorem goD_mkMap  : goD P .mkMap d K fr σ = goI P .mkMap d K fr σ := rfl
theorem goI_indexAgg (len : Nat) (x i : Operand) : goI P (.indexAgg len x i) d K fr σ = ixAK len (evO fr x) (evO fr i) d K fr σ := rfl
theorem goD_indexAgg (len : Nat) (x i : Operand) : goD P (.indexAgg len x i) d K fr σ = goI P (.indexAgg len x i) d K fr σ := rfl
theorem goI_indexAggN (len sz : Nat) (x i : Operand) : goI P (.indexAggN len sz x i) d K fr σ = ixANK len sz (evO fr x) (evO fr i) d K fr σ := rfl
theorem goD_indexAggN (len sz : Nat) (x i : Operand) : goD P (.indexAggN len sz x i) d K fr σ = goI P (.indexAggN len sz x i) d K fr σ := rfl
theorem goI_eqF (neg : Bool) (ks : List FK) (x y : Operand) : goI P (.eqF neg ks x y) d K fr σ = eqFK neg ks (evO fr x) (evO fr y) d K fr σ := rfl
theorem goD_eqF (neg : Bool) (ks : List FK) (x y : Operand) : goD P (.eqF neg ks x y) d K fr σ = goI P (.eqF neg ks x y) d K fr σ := rfl

def blkLoad : Blk → Nat → Option Value
  | .cells _ cs _, o => cs[o]?
  | _, _ => none
def blkRow : Blk → Nat → Nat → Option (List Value)
  | .cells _ cs _, o, n => if o + n ≤ cs.length then some ((cs.drop o).take n) else none
  | _, _, _ => none
theorem load_at (g o : Nat) : σ.load g o = blkLoad (σ.at g) o := by unfold Heap.load blkLoad; cases σ.at g <;> rfl
theorem row_at (g o n : Nat) : σ.row g o n = blkRow (σ.at g) o n := by unfold Heap.row blkRow; cases σ.at g <;> rfl
theorem blkLoad_cells (t : TypeId) (cs : List Value) (rw : Bool) (o : Nat) : blkLoad (.cells t cs rw) o = cs[o]? := rfl
theorem blkRow_cells (t : TypeId) (cs : List Value) (rw : Bool) (o n : Nat) : blkRow (.cells t cs rw) o n = if o + n ≤ cs.length then some ((cs.drop o).take n) else none := rfl
end

end Go.Proofs.Ytoaohoilkfbdgaa.Sh
