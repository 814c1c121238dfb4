/- Evaluation of values: numbers, texts, cells, rows that were written or laid. -/
import Derived.Test.YtoaohoilkfbdgaaShV
import Derived.IntWalk
set_option linter.unusedVariables false
set_option linter.unusedSimpArgs false
namespace Go.Proofs.Ytoaohoilkfbdgaa.Sh
open Go Go.RowKit
section
variable (k : IntKind) (x y : Int) (s u : ByteArray)
theorem vb_add : vbin .add (.int k x) (.int k y) = some (.int k (k.wrap (x + y))) := by simp [vbin, ibin]
theorem vb_sub : vbin .sub (.int k x) (.int k y) = some (.int k (k.wrap (x - y))) := by simp [vbin, ibin]
theorem vb_mul : vbin .mul (.int k x) (.int k y) = some (.int k (k.wrap (x * y))) := by simp [vbin, ibin]
theorem vb_quo : vbin .quo (.int k x) (.int k y) = if y = 0 then none else some (.int k (k.wrap (x.tdiv y))) := by simp [vbin, ibin]
theorem vb_rem : vbin .rem (.int k x) (.int k y) = if y = 0 then none else some (.int k (x.tmod y)) := by simp [vbin, ibin]
theorem vb_and : vbin .and (.int k x) (.int k y) = some (.int k (k.wrap (BitVec.ofInt k.bits x &&& BitVec.ofInt k.bits y).toNat)) := by simp [vbin, ibin]
theorem vb_or : vbin .or (.int k x) (.int k y) = some (.int k (k.wrap (BitVec.ofInt k.bits x ||| BitVec.ofInt k.bits y).toNat)) := by simp [vbin, ibin]
theorem vb_xor : vbin .xor (.int k x) (.int k y) = some (.int k (k.wrap (BitVec.ofInt k.bits x ^^^ BitVec.ofInt k.bits y).toNat)) := by simp [vbin, ibin]
theorem vb_andNot : vbin .andNot (.int k x) (.int k y) = some (.int k (k.wrap (BitVec.ofInt k.bits x &&& ~~~(BitVec.ofInt k.bits y)).toNat)) := by simp [vbin, ibin]
theorem vb_eql : vbin .eql (.int k x) (.int k y) = some (.bool (decide (x = y))) := by simp [vbin, ibin]; rfl
theorem vb_neq : vbin .neq (.int k x) (.int k y) = some (.bool (decide (x ≠ y))) := by simp [vbin, ibin]; rfl
theorem vb_lss : vbin .lss (.int k x) (.int k y) = some (.bool (decide (x < y))) := by simp [vbin, ibin]
theorem vb_leq : vbin .leq (.int k x) (.int k y) = some (.bool (decide (x ≤ y))) := by simp [vbin, ibin]
theorem vb_gtr : vbin .gtr (.int k x) (.int k y) = some (.bool (decide (y < x))) := by simp [vbin, ibin]
theorem vb_geq : vbin .geq (.int k x) (.int k y) = some (.bool (decide (y ≤ x))) := by simp [vbin, ibin]
theorem vb_shl (j : IntKind) : vbin .shl (.int k x) (.int j y) = if y < 0 then none else some (.int k (k.wrap (x * 2 ^ (Nat.min y.toNat k.bits)))) := by simp [vbin, ishift]
theorem vb_shr (j : IntKind) : vbin .shr (.int k x) (.int j y) = if y < 0 then none else some (.int k (x.fdiv (2 ^ (Nat.min y.toNat k.bits)))) := by simp [vbin, ishift]
theorem vb_cat : vbin .add (.string s) (.string u) = if 9223372036854775807 < ((s.size + u.size : Nat) : Int) then none else some (.string (s ++ u)) := by
  show sbin .add s u = _
  unfold sbin
  have : IntKind.i64.max = 9223372036854775807 := by decide
  rw [this]
theorem toList_inj {s u : ByteArray} : s.toList = u.toList ↔ s = u := by
  constructor
  · intro h
    rw [ByteArray.toList_eq, ByteArray.toList_eq] at h
    cases s; cases u; simp_all
  · rintro rfl; rfl
theorem vb_seql : vbin .eql (.string s) (.string u) = some (.bool (decide (s = u))) := by
  show some (Value.bool (s.toList == u.toList)) = _
  congr 2
  by_cases h : s = u <;> simp [h, toList_inj]
theorem vb_sneq : vbin .neq (.string s) (.string u) = some (.bool (decide (s ≠ u))) := by
  show some (Value.bool (!(s.toList == u.toList))) = _
  congr 2
  by_cases h : s = u <;> simp [h, toList_inj]
theorem vu_not (b : Bool) : vun .not (.bool b) = some (.bool !b) := rfl
theorem vu_neg : vun .neg (.int k x) = some (.int k (k.wrap (0 - x))) := rfl
theorem vn_ptr (a : Addr) : vnil .p (.pointer (some a)) = some false := rfl
theorem vn_ptr0 : vnil .p (.pointer none) = some true := rfl
theorem vn_sl (a : Addr) (n s : Nat) : vnil .s (.slice (some a) n s) = some false := rfl
theorem vn_sl0 (n s : Nat) : vnil .s (.slice none n s) = some true := rfl
theorem vn_m (a : Nat) : vnil .m (.map (some a)) = some false := rfl
theorem vn_m0 : vnil .m (.map none) = some true := rfl
theorem vn_f (f : Fn) (a b : Array Value) : vnil .f (.func f a b) = some false := rfl
theorem vn_f0 : vnil .f .nilFunc = some true := rfl
end
theorem bd_none (n : Nat) : bounds n none none = some (0, n) := rfl
theorem bd_lo (n : Nat) (k : IntKind) (l : Int) : bounds n (some (.int k l)) none = if 0 ≤ l ∧ l ≤ n then some (l.toNat, n) else none := rfl
theorem bd_hi (n : Nat) (k : IntKind) (h : Int) : bounds n none (some (.int k h)) = if 0 ≤ h ∧ h ≤ n then some (0, h.toNat) else none := by
  unfold bounds; by_cases c : 0 ≤ h ∧ h ≤ n <;> simp [c]
theorem bd_both (n : Nat) (k j : IntKind) (l h : Int) : bounds n (some (.int k l)) (some (.int j h)) = if (0 ≤ h ∧ h ≤ n) ∧ 0 ≤ l ∧ l ≤ h then some (l.toNat, h.toNat) else none := by
  unfold bounds
  by_cases c : 0 ≤ h ∧ h ≤ n
  · have e : ((h.toNat : Nat) : Int) = h := by omega
    simp only [c, and_self, if_true, e, true_and]
  · have c' : ¬ ((0 ≤ h ∧ h ≤ n) ∧ 0 ≤ l ∧ l ≤ h) := fun q => c q.1
    rw [if_neg c']
    simp only [c, if_false]

/-! ### Cells that are written -/
theorem at_set {σ : Heap} {g : Nat} {b : Blk} (h : (σ.at g).live = true) : (σ.set g b).at g = b := σ.at_set_same b (Heap.lt_of_at h)
theorem live_cells (t : TypeId) (cs : List Value) (rw : Bool) : (Blk.cells t cs rw).live = true := rfl
theorem set_next (σ : Heap) (g : Nat) (b : Blk) : (σ.set g b).next = σ.next := rfl
theorem push_next (σ : Heap) (b : Blk) : (σ.push b).next = σ.next + 1 := rfl
theorem set_set (σ : Heap) (g : Nat) (b c : Blk) : (σ.set g b).set g c = σ.set g c := by
  unfold Heap.set
  congr 1
  funext j
  by_cases h : j = g <;> simp [h]
theorem set_comm (σ : Heap) (g j : Nat) (h : g ≠ j) (b c : Blk) : (σ.set g b).set j c = (σ.set j c).set g b := by
  unfold Heap.set
  congr 1
  funext i
  by_cases h1 : i = j
  · subst h1; simp [Ne.symm h]
  · simp [h1]
theorem set_push (σ : Heap) (g : Nat) (h : g ≠ σ.next) (b c : Blk) : (σ.push b).set g c = (σ.set g c).push b := by
  unfold Heap.set Heap.push
  congr 1
  funext i
  by_cases h1 : i = g
  · subst h1; simp [h]
  · simp [h1]
theorem set_push_new (σ : Heap) (b c : Blk) : (σ.push b).set σ.next c = σ.push c := by
  unfold Heap.set Heap.push
  congr 1
  funext i
  by_cases h1 : i = σ.next <;> simp [h1]
theorem at_push_lt {σ : Heap} {g : Nat} {b : Blk} (h : (σ.at g).live = true) : (σ.push b).at g = σ.at g := σ.at_push_ne b (Nat.ne_of_lt (Heap.lt_of_at h))

def Heap.put (σ : Heap) (g : Nat) (t : TypeId) (cs : List Value) : Heap := σ.set g (.cells t cs true)
theorem put_put (σ : Heap) (g : Nat) (t t' : TypeId) (cs cs' : List Value) : (σ.put g t cs).put g t' cs' = σ.put g t' cs' := set_set ..
theorem at_put {σ : Heap} {g : Nat} {t : TypeId} {cs : List Value} (h : g < σ.next) : (σ.put g t cs).at g = .cells t cs true := σ.at_set_same _ h
theorem at_put_ne {σ : Heap} {g j : Nat} {t : TypeId} {cs : List Value} (h : j ≠ g) : (σ.put g t cs).at j = σ.at j := σ.at_set_ne _ h
theorem put_next (σ : Heap) (g : Nat) (t : TypeId) (cs : List Value) : (σ.put g t cs).next = σ.next := rfl
/-- One row's cells written. -/
theorem store_cells {σ : Heap} {g : Nat} {t : TypeId} : ∀ (vs cs : List Value) (o : Nat), σ.at g = .cells t cs true → o + vs.length ≤ cs.length → vs.all scalar = true → vs ≠ [] → σ.store g o vs = some (σ.put g t (setCells cs o vs))
  | [], _, _, _, _, _, h => (h rfl).elim
  | v :: r, cs, o, h, hl, hs, _ => by
    simp only [List.all_cons, Bool.and_eq_true] at hs
    have hlt : g < σ.next := Heap.lt_of_at (by rw [h]; rfl)
    have h1 : σ.store1 g o v = some (σ.put g t (cs.set o v)) := by
      unfold Heap.store1
      rw [h]
      have : o < cs.length := by simp at hl; omega
      simp [this, hs.1, Heap.put]
    simp only [Heap.store, h1, Option.bind_some]
    cases r with
    | nil => simp [Heap.store, setCells]
    | cons v2 r2 =>
      have := store_cells (σ := σ.put g t (cs.set o v)) (g := g) (t := t) (v2 :: r2) (cs.set o v) (o + 1) (at_put hlt) (by simp at hl ⊢; omega) hs.2 (by simp)
      rw [this, put_put]
      rfl
theorem heapK_cells {σ : Heap} {g : Nat} {t : TypeId} {vs cs : List Value} {o : Nat} (d : Option Nat) (K : Cont) (fr : Fr) (h : σ.at g = .cells t cs true) (hl : o + vs.length ≤ cs.length) (hs : vs.all scalar = true) (hn : vs ≠ []) :
    heapK (σ.store g o vs) d K fr = K (fr.put d undef) (σ.put g t (setCells cs o vs)) := by rw [store_cells vs cs o h hl hs hn]; rfl
theorem setCells_nil (cs : List Value) (o : Nat) : setCells cs o [] = cs := rfl
theorem setCells_cons (cs : List Value) (o : Nat) (v : Value) (r : List Value) : setCells cs o (v :: r) = setCells (cs.set o v) (o + 1) r := rfl
theorem fillS_nil (cs : List Value) : fillS cs [] = some cs := rfl
theorem fillS_cons (cs : List Value) (off size : Nat) (v : Value) (r : List (Nat × Nat × Value)) : fillS cs ((off, size, v) :: r) = if v.cells.size = size ∧ off + size ≤ cs.length then fillS (setCells cs off v.cells.toList) r else none := rfl
theorem cells_agg (a : Array Value) : (Value.agg a).cells = a := rfl
theorem cells_bool (b : Bool) : (Value.bool b).cells = #[.bool b] := rfl
theorem cells_int (k : IntKind) (n : Int) : (Value.int k n).cells = #[.int k n] := rfl
theorem cells_string (s : ByteArray) : (Value.string s).cells = #[.string s] := rfl
theorem cells_pointer (a : Option Addr) : (Value.pointer a).cells = #[.pointer a] := rfl
theorem cells_slice (a : Option Addr) (n s : Nat) : (Value.slice a n s).cells = #[.slice a n s] := rfl
theorem cells_map (a : Option Nat) : (Value.map a).cells = #[.map a] := rfl
theorem cells_func (f : Fn) (a b : Array Value) : (Value.func f a b).cells = #[.func f a b] := rfl
theorem sc_bool (b : Bool) : scalar (Value.bool b) = true := rfl
theorem sc_int (k : IntKind) (n : Int) : scalar (Value.int k n) = true := rfl
theorem sc_string (s : ByteArray) : scalar (Value.string s) = true := rfl
theorem sc_pointer (a : Option Addr) : scalar (Value.pointer a) = true := rfl
theorem sc_slice (a : Option Addr) (n s : Nat) : scalar (Value.slice a n s) = true := rfl
theorem sc_map (a : Option Nat) : scalar (Value.map a) = true := rfl
theorem sc_func (f : Fn) (a b : Array Value) : scalar (Value.func f a b) = true := rfl
theorem w64 {n : Int} (h1 : -9223372036854775808 ≤ n) (h2 : n ≤ 9223372036854775807) : IntKind.i64.wrap n = n := IntWalk.i64_in n ⟨h1, h2⟩
theorem toArray_extract (l : List Value) (i j : Nat) : l.toArray.extract i j = ((l.take j).drop i).toArray := by
  rw [List.extract_toArray, List.extract_eq_take_drop, List.drop_take]
theorem kOpt_some {α : Type} (x : α) (K : α → Prop) : kOpt (some x) K = K x := rfl
theorem kOpt_none {α : Type} (K : α → Prop) : kOpt none K = False := rfl

/-! ### Conditional steps, told by the block -/
def stB (b : Blk) (σ : Heap) (g o : Nat) (vs : List Value) (d : Option Nat) (K : Cont) (fr : Fr) : Prop := heapK (σ.store g o vs) d K fr
theorem heapK_store (σ : Heap) (g o : Nat) (vs : List Value) (d : Option Nat) (K : Cont) (fr : Fr) : heapK (σ.store g o vs) d K fr = stB (σ.at g) σ g o vs d K fr := rfl
theorem stB_cells {σ : Heap} {g : Nat} {t : TypeId} {vs cs : List Value} {o : Nat} (d : Option Nat) (K : Cont) (fr : Fr) (h : σ.at g = .cells t cs true) (hl : o + vs.length ≤ cs.length) (hs : vs.all scalar = true) (hn : vs ≠ []) :
    stB (.cells t cs true) σ g o vs d K fr = K (fr.put d undef) (σ.put g t (setCells cs o vs)) := heapK_cells d K fr h hl hs hn
def apB (b : Blk) (σ : Heap) (t : TypeId) (sz bytes g n s m : Nat) (news : List Value) (d : Option Nat) (K : Cont) (fr : Fr) : Prop := appX σ t sz bytes (.slice (some ⟨g, 0, none⟩) n s) m news d K fr
theorem appX_row (σ : Heap) (t : TypeId) (sz bytes g n s m : Nat) (news : List Value) (d : Option Nat) (K : Cont) (fr : Fr) : appX σ t sz bytes (.slice (some ⟨g, 0, none⟩) n s) m news d K fr = apB (σ.at g) σ t sz bytes g n s m news d K fr := rfl
theorem apB_cells {σ : Heap} {t : TypeId} {sz bytes g n s m : Nat} {news cs : List Value} (d : Option Nat) (K : Cont) (fr : Fr) (h : σ.at g = .cells t cs true) :
    apB (.cells t cs true) σ t sz bytes g n s m news d K fr = (s = sz ∧ (n * sz ≤ cs.length ∧ (n + m) * bytes ≤ 140737488355328 ∧ n + m ≤ maxLen) ∧ K (fr.put d (.slice (some ⟨σ.next, 0, none⟩) (n + m) sz)) ((σ.set g .dead).push (.cells t (cs.take (n * sz) ++ news) true))) :=
  appX_some d K fr σ t sz bytes g n s m news cs (by unfold Heap.rwRow; rw [h]; simp)
def apR (o : Option (List Value)) (t : TypeId) (sz bytes : Nat) (s : Value) (a : Addr) (m sx : Nat) (d : Option Nat) (K : Cont) (fr : Fr) (σ : Heap) : Prop := apK t sz bytes s (.slice (some a) m sx) d K fr σ
theorem apK_row (t : TypeId) (sz bytes : Nat) (s : Value) (a : Addr) (m sx : Nat) (d : Option Nat) (K : Cont) (fr : Fr) (σ : Heap) : apK t sz bytes s (.slice (some a) m sx) d K fr σ = apR (σ.row a.block a.off (m * sz)) t sz bytes s a m sx d K fr σ := rfl
theorem apR_some {news : List Value} {t : TypeId} {sz bytes : Nat} {s : Value} {a : Addr} {m sx : Nat} (d : Option Nat) (K : Cont) (fr : Fr) (σ : Heap) (hm : m ≠ 0) (h : σ.row a.block a.off (m * sz) = some news) :
    apR (some news) t sz bytes s a m sx d K fr σ = (sx = sz ∧ appX σ t sz bytes s m news d K fr) := apK_one d K fr σ t sz bytes m sx s a news hm h
theorem at_push_old {σ : Heap} {g : Nat} {b : Blk} (h : g < σ.next) : (σ.push b).at g = σ.at g := σ.at_push_ne b (Nat.ne_of_lt h)
theorem lt_more {g n k : Nat} (h : g < n) : (g < n + k) = True := by simp; omega
theorem lt_self (n k : Nat) : (n < n + k) = (0 < k) := by simp
theorem lt_left (n j k : Nat) : (n + j < n + k) = (j < k) := by simp
theorem eq_left (n j k : Nat) : (n + j = n + k) = (j = k) := by simp
theorem eq_self_add (n k : Nat) : (n = n + k) = (k = 0) := by simp
theorem add_eq_self' (n k : Nat) : (n + k = n) = (k = 0) := by simp
theorem add_lit (n j k : Nat) : n + j + k = n + (j + k) := Nat.add_assoc n j k
theorem at_setd_ne {σ : Heap} {g j : Nat} {b : Blk} (h : j ≠ g) : (σ.set g b).at j = σ.at j := σ.at_set_ne _ h
theorem loc_lt {σ : Heap} {g : Nat} {t : TypeId} {cs : List Value} {rw : Bool} (h : σ.at g = .cells t cs rw) : g < σ.next := Heap.lt_of_at (by rw [h]; rfl)

/-! ### Zero bytes -/
def zeros (n : Nat) : ByteArray := ⟨Array.replicate n 0⟩
theorem zeros_size (n : Nat) : (zeros n).size = n := by simp [zeros, ByteArray.size]
theorem reps_one (n : Nat) (z : Value) : reps n [z] = List.replicate n z := by
  unfold reps
  induction n with
  | zero => rfl
  | succ n ih => simp [List.replicate_succ, ih]
theorem row_reps (t : TypeId) (n : Nat) (z : Value) (rw : Bool) : blkRow (.cells t (reps n [z]) rw) 0 n = some (reps n [z]) := by
  rw [reps_one]; simp [blkRow]
theorem bytesOf_zeros (n : Nat) : bytesOf (List.replicate n (.int .u8 0)) = some (List.replicate n 0) := by
  induction n with
  | zero => rfl
  | succ n ih => simp [List.replicate_succ, bytesOf, ih]
theorem tsK_zeros (g n s : Nat) (d : Option Nat) (K : Cont) (fr : Fr) (σ : Heap) (h : σ.row g 0 n = some (reps n [.int .u8 0])) : tsK (.slice (some ⟨g, 0, none⟩) n s) d K fr σ = K (fr.put d (.string (zeros n))) σ := by
  rw [tsK_sl d K fr σ ⟨g, 0, none⟩ n s (List.replicate n 0) (by rw [h, reps_one]; exact bytesOf_zeros n) (by simp)]
  have : (⟨(List.replicate n (0 : UInt8)).toArray⟩ : ByteArray) = zeros n := by simp [zeros]
  rw [this]
theorem put_push_new (σ : Heap) (b : Blk) (t : TypeId) (cs : List Value) : (σ.push b).put σ.next t cs = σ.push (.cells t cs true) := set_push_new ..
theorem put_push_old {σ : Heap} {g : Nat} (h : g < σ.next) (b : Blk) (t : TypeId) (cs : List Value) : (σ.push b).put g t cs = (σ.put g t cs).push b := set_push σ g (Nat.ne_of_lt h) _ _
theorem at_push_is {σ : Heap} {g : Nat} (h : g = σ.next) (b : Blk) : (σ.push b).at g = b := by subst h; exact σ.at_push_new b
theorem put_push_is {σ : Heap} {g : Nat} (h : g = σ.next) (b : Blk) (t : TypeId) (cs : List Value) : (σ.push b).put g t cs = σ.push (.cells t cs true) := by subst h; exact put_push_new ..
theorem reps_len (n : Nat) (z : Value) : (reps n [z]).length = n := by rw [reps_one]; simp
theorem reps_take (n : Nat) (z : Value) : (reps n [z]).take n = reps n [z] := by rw [reps_one]; simp
end Go.Proofs.Ytoaohoilkfbdgaa.Sh
