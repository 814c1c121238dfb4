/- A shadow of the program's memory: zarh by numbers of our own, appended slices without their spare places; what it means that a world of the model is as a shadow says. -/
import Derived.WalkKit
import Derived.Below
import Derived.Deep.Draws
import Derived.Still
import Derived.Orders
set_option linter.unusedVariables false
namespace Go.Proofs.Ytdcfoaafkppojaa.Sh
open Go Go.RowKit
structure Loc where
  b : Nat
  base : Nat
  room : Nat
  deriving Inhabited
structure Mp where
  n : Nat
  l : Nat → Loc
structure Mp.le (m m' : Mp) : Prop where
  n : m.n ≤ m'.n
  l : ∀ i,i < m.n → m'.l i = m.l i
theorem Mp.le.refl (m : Mp) : m.le m := ⟨Nat.le_refl _,fun _ _ => rfl⟩
theorem Mp.le.trans {a b c : Mp} (h : a.le b) (k : b.le c) : a.le c :=
  ⟨Nat.le_trans h.n k.n,fun i hi => (k.l i (Nat.lt_of_lt_of_le hi h.n)).trans (h.l i hi)⟩
inductive bu (m : Mp) : Value → Value → Prop where
  | bool (b : Bool) : bu m (.bool b) (.bool b)
  | int (k : IntKind) (n : Int) : bu m (.int k n) (.int k n)
  | string (s : ByteArray) : bu m (.string s) (.string s)
  | nilP : bu m (.pointer none) (.pointer none)
  | ptr (i o : Nat) (h : i < m.n) : bu m (.pointer (some ⟨i,o,none⟩)) (.pointer (some ⟨(m.l i).b,(m.l i).base + o,none⟩))
  | nilS : bu m (.slice none 0 0) (.slice none 0 0)
  | slice (i o n s k : Nat) (h : i < m.n) (hk : n ≤ k) (hr : o + k * s = (m.l i).room) :
      bu m (.slice (some ⟨i,o,none⟩) n s) (.slice (some ⟨(m.l i).b,(m.l i).base + o,none⟩) n k)
  | sliceE (i o s : Nat) (a : Addr) : bu m (.slice (some ⟨i,o,none⟩) 0 s) (.slice (some a) 0 0)
  | nilM : bu m (.map none) (.map none)
  | map (i : Nat) (h : i < m.n) : bu m (.map (some i)) (.map (some (m.l i).b))
  | nilF : bu m .nilFunc .nilFunc
  | nilI : bu m .nilIface .nilIface
  | func (fn : Fn) (a b c d : Array Value) (ha : a.size = c.size) (hb : b.size = d.size)
      (h1 : ∀ i,i < a.size → bu m (a.getD i undef) (c.getD i undef)) (h2 : ∀ i,i < b.size → bu m (b.getD i undef) (d.getD i undef)) :
      bu m (.func fn a b) (.func fn c d)
  | agg (a b : Array Value) (hs : a.size = b.size) (h : ∀ i,i < a.size → bu m (a.getD i undef) (b.getD i undef)) : bu m (.agg a) (.agg b)
  | tuple (a b : Array Value) (hs : a.size = b.size) (h : ∀ i,i < a.size → bu m (a.getD i undef) (b.getD i undef)) : bu m (.tuple a) (.tuple b)
theorem bu.undef (m : Mp) : bu m undef undef := .tuple _ _ rfl (by intro i hi; simp at hi)
theorem bu.mono {m m' : Mp} (hm : m.le m') {v c : Value} (h : bu m v c) : bu m' v c := by
  induction h with
  | bool b => exact .bool b
  | int k n => exact .int k n
  | string s => exact .string s
  | nilP => exact .nilP
  | ptr i o h => rw [← hm.l i h]; exact .ptr i o (Nat.lt_of_lt_of_le h hm.n)
  | nilS => exact .nilS
  | slice i o n s k h hk hr => rw [← hm.l i h] at *; exact .slice i o n s k (Nat.lt_of_lt_of_le h hm.n) hk hr
  | sliceE i o s ae => exact .sliceE i o s ae
  | nilM => exact .nilM
  | map i h => rw [← hm.l i h]; exact .map i (Nat.lt_of_lt_of_le h hm.n)
  | nilF => exact .nilF
  | nilI => exact .nilI
  | func fn a b c d ha hb h1 h2 ih1 ih2 => exact .func fn a b c d ha hb ih1 ih2
  | agg a b hs h ih => exact .agg a b hs ih
  | tuple a b hs h ih => exact .tuple a b hs ih
section inv
variable {m : Mp} {c : Value}
theorem zao1 {b : Bool} (h : bu m (.bool b) c) : c = .bool b := by cases h; rfl
theorem zl {k : IntKind} {n : Int} (h : bu m (.int k n) c) : c = .int k n := by cases h; rfl
theorem zao0 {s : ByteArray} (h : bu m (.string s) c) : c = .string s := by cases h; rfl
theorem vrel_nilP (h : bu m (.pointer none) c) : c = .pointer none := by cases h; rfl
theorem vrel_ptr {a : Addr} (h : bu m (.pointer (some a)) c) : a.spot = none ∧ a.block < m.n ∧ c = .pointer (some ⟨(m.l a.block).b,(m.l a.block).base + a.off,none⟩) := by
  cases h; exact ⟨rfl,by assumption,rfl⟩
theorem vrel_nilS {n k : Nat} (h : bu m (.slice none n k) c) : n = 0 ∧ k = 0 ∧ c = .slice none 0 0 := by cases h; exact ⟨rfl,rfl,rfl⟩
theorem vrel_nilM (h : bu m (.map none) c) : c = .map none := by cases h; rfl
theorem vrel_map {i : Nat} (h : bu m (.map (some i)) c) : i < m.n ∧ c = .map (some (m.l i).b) := by cases h; exact ⟨by assumption,rfl⟩
theorem vrel_nilF (h : bu m .nilFunc c) : c = .nilFunc := by cases h; rfl
theorem vrel_nilI (h : bu m .nilIface c) : c = .nilIface := by cases h; rfl
theorem vrel_func {fn : Fn} {a b : Array Value} (h : bu m (.func fn a b) c) : ∃ a' b',c = .func fn a' b' ∧ a.size = a'.size ∧ b.size = b'.size ∧
    (∀ i,i < a.size → bu m (a.getD i undef) (a'.getD i undef)) ∧ (∀ i,i < b.size → bu m (b.getD i undef) (b'.getD i undef)) := by
  cases h; exact ⟨_,_,rfl,by assumption,by assumption,by assumption,by assumption⟩
theorem vrel_agg {a : Array Value} (h : bu m (.agg a) c) : ∃ b,c = .agg b ∧ a.size = b.size ∧ ∀ i,i < a.size → bu m (a.getD i undef) (b.getD i undef) := by
  cases h; exact ⟨_,rfl,by assumption,by assumption⟩
theorem vrel_tuple {a : Array Value} (h : bu m (.tuple a) c) : ∃ b,c = .tuple b ∧ a.size = b.size ∧ ∀ i,i < a.size → bu m (a.getD i undef) (b.getD i undef) := by
  cases h; exact ⟨_,rfl,by assumption,by assumption⟩
end inv
def scalar : Value → Bool
  | .agg _ | .tuple _ => false
  | _ => true
theorem bu.scalar {m : Mp} {v c : Value} (h : bu m v c) : scalar c = scalar v := by cases h <;> rfl
inductive Md where
  | ro | app | rw
  deriving DecidableEq
inductive Blk where
  | dead
  | cells (t : TypeId) (cs : List Value) (md : Md)
  | map (es : List (Value × Value))
def Blk.own : Blk → Bool
  | .cells _ _ .ro => false
  | .cells _ _ _ => true
  | .map _ => true
  | .dead => false
def Blk.isRw : Blk → Bool
  | .cells _ _ .rw => true
  | .map _ => true
  | _ => false
theorem Blk.own_of_rw {b : Blk} (h : b.isRw = true) : b.own = true := by
  cases b with
  | cells t cs md => cases md <;> first | rfl | cases h
  | map es => rfl
  | dead => cases h
def zapp (bi : Blk) (lj : Loc) (bj : Blk) : Prop :=
  match bi,bj with
  | .cells _ cs .app,.cells _ cs' .ro => lj.base + cs'.length ≤ cs.length
  | _,_ => False
theorem sb {bi : Blk} {lj : Loc} {bj : Blk} (h : zapp bi lj bj) : ∃ t cs t' cs',bi = .cells t cs .app ∧ bj = .cells t' cs' .ro ∧ lj.base + cs'.length ≤ cs.length := by
  unfold zapp at h
  split at h
  · exact ⟨_,_,_,_,rfl,rfl,h⟩
  · exact h.elim
theorem shares_rw {bi : Blk} {lj : Loc} {bj : Blk} (h : bi.isRw = true) : ¬ zapp bi lj bj := by
  intro e
  obtain ⟨_,_,_,_,rfl,_⟩ := sb e
  cases h
def Blk.live : Blk → Bool
  | .dead => false
  | _ => true
theorem Blk.live_of_own {b : Blk} (h : b.own = true) : b.live = true := by cases b <;> first | rfl | cases h
structure ak where
  next : Nat
  blk : Nat → Blk
def ak.set (σ : ak) (i : Nat) (b : Blk) : ak := { σ with blk := fun j => if j = i then b else σ.blk j }
def ak.push (σ : ak) (b : Blk) : ak := { next := σ.next + 1,blk := fun j => if j = σ.next then b else σ.blk j }
def ak.at (σ : ak) (i : Nat) : Blk := if i < σ.next then σ.blk i else .dead
theorem ak.at_lt {σ : ak} {i : Nat} (h : i < σ.next) : σ.at i = σ.blk i := by simp [ak.at,h]
theorem ak.at_push_new (σ : ak) (b : Blk) : (σ.push b).at σ.next = b := by simp [ak.at,ak.push]
theorem ak.at_push_ne (σ : ak) (b : Blk) {i : Nat} (h : i ≠ σ.next) : (σ.push b).at i = σ.at i := by
  have : i < σ.next + 1 ↔ i < σ.next := by omega
  simp [ak.at,ak.push,h,this]
theorem ak.at_set_same (σ : ak) {i : Nat} (b : Blk) (h : i < σ.next) : (σ.set i b).at i = b := by simp [ak.at,ak.set,h]
theorem ak.at_set_ne (σ : ak) {i j : Nat} (b : Blk) (h : j ≠ i) : (σ.set i b).at j = σ.at j := by simp [ak.at,ak.set,h]
theorem ak.lt_of_at {σ : ak} {i : Nat} (h : (σ.at i).live = true) : i < σ.next := by
  unfold ak.at at h
  split at h
  · assumption
  · cases h
def ak.load (σ : ak) (i o : Nat) : Option Value :=
  match σ.at i with
  | .cells _ cs _ => cs[o]?
  | _ => none
def we (B : Nat) (m : Mp) (w : World) (l : Loc) : Blk → Prop
  | .dead => True
  | .cells t cs md => ∃ c t' fz,w.heap[l.b]? = some (.cells c t' fz) ∧
      (∀ j,j < cs.length → l.base + j < c.size ∧ bu m (cs.getD j undef) (c.getD (l.base + j) undef) ∧ scalar (cs.getD j undef) = true) ∧
      (md ≠ .ro → B ≤ l.b ∧ t' = t ∧ l.base = 0 ∧ c.size = l.room ∧ (∀ o,o < c.size → ¬ (fz.1 ≤ o ∧ o < fz.2)))
  | .map es => B ≤ l.b ∧ ∃ ents clock,w.heap[l.b]? = some (.map ents clock) ∧ ents.size = es.length ∧
      ∀ j,j < es.length → bu m (es.getD j (undef,undef)).1 (ents.getD j default).key ∧ bu m (es.getD j (undef,undef)).2 (ents.getD j default).val
structure Rep (B : Nat) (w0 : World) (σ : ak) (m : Mp) (w : World) : Prop where
  next : m.n = σ.next
  below : Below B w0 w
  base : B ≤ w0.heap.size
  blk : ∀ i,i < σ.next → we B m w (m.l i) (σ.blk i)
  apart : ∀ i j,i < σ.next → j < σ.next → i ≠ j → (σ.blk i).own = true → (σ.blk j).live = true → (m.l i).b ≠ (m.l j).b ∨ zapp (σ.blk i) (m.l j) (σ.blk j)
theorem we.mono {B : Nat} {m m' : Mp} {w : World} {l : Loc} {b : Blk} (hm : m.le m') (h : we B m w l b) : we B m' w l b := by
  cases b with
  | dead => trivial
  | cells t cs md =>
    obtain ⟨c,t',fz,h1,h2,h3⟩ := h
    exact ⟨c,t',fz,h1,fun j hj => ⟨(h2 j hj).1,(h2 j hj).2.1.mono hm,(h2 j hj).2.2⟩,h3⟩
  | map es =>
    obtain ⟨hB,e,k,h1,h2,h3⟩ := h
    exact ⟨hB,e,k,h1,h2,fun j hj => ⟨(h3 j hj).1.mono hm,(h3 j hj).2.mono hm⟩⟩
theorem we.world {B : Nat} {m : Mp} {w w' : World} {l : Loc} {b : Blk} (hw : w'.heap[l.b]? = w.heap[l.b]?) (h : we B m w l b) : we B m w' l b := by
  cases b with
  | dead => trivial
  | cells t cs md =>
    obtain ⟨c,t',fz,h1,h2⟩ := h
    exact ⟨c,t',fz,by rw [hw]; exact h1,h2⟩
  | map es =>
    obtain ⟨hB,e,k,h1,h2⟩ := h
    exact ⟨hB,e,k,by rw [hw]; exact h1,h2⟩
theorem we.lt {B : Nat} {m : Mp} {w : World} {l : Loc} {b : Blk} (hb : b.live = true) (h : we B m w l b) : l.b < w.heap.size := by
  cases b with
  | dead => cases hb
  | cells t cs md => obtain ⟨c,t',fz,h1,_⟩ := h; exact (Array.getElem?_eq_some_iff.1 h1).1
  | map es => obtain ⟨_,e,k,h1,_⟩ := h; exact (Array.getElem?_eq_some_iff.1 h1).1
theorem Rep.apart_rw {B : Nat} {w0 : World} {σ : ak} {m : Mp} {w : World} (h : Rep B w0 σ m w) {i j : Nat} (hi : i < σ.next) (hj : j < σ.next) (hij : i ≠ j) (hr : (σ.blk i).isRw = true) (hl : (σ.blk j).live = true) : (m.l i).b ≠ (m.l j).b :=
  (h.apart i j hi hj hij (Blk.own_of_rw hr) hl).resolve_right (shares_rw hr)
theorem Rep.later {B : Nat} {w0 : World} {σ : ak} {m : Mp} {w w' : World} (h : Rep B w0 σ m w) (hw : Below w.heap.size w w') : Rep B w0 σ m w' where
  next := h.next
  below := h.below.trans ⟨hw.os,hw.tape,hw.output,hw.size,fun i hi => hw.block i (Nat.lt_of_lt_of_le hi (Nat.le_trans h.base h.below.size))⟩
  base := h.base
  blk := fun i hi => by
    have hb := h.blk i hi
    cases hl : (σ.blk i).live with
    | false => cases hq : σ.blk i <;> simp_all [Blk.live,we]
    | true => exact hb.world (hw.block _ (hb.lt hl))
  apart := h.apart
theorem Rep.drew {B : Nat} {w0 : World} {σ : ak} {m : Mp} {w : World} (h : Rep B w0 σ m w) : Rep B w0 σ m { w with drawn := w.drawn + 1 } :=
  h.later ⟨rfl,rfl,rfl,Nat.le_refl _,fun _ _ => rfl⟩
structure ak.le (σ σ' : ak) : Prop where
  next : σ.next ≤ σ'.next
  blk : ∀ i,i < σ.next → σ'.blk i = σ.blk i
theorem ak.le.refl (σ : ak) : σ.le σ := ⟨Nat.le_refl _,fun _ _ => rfl⟩
theorem ak.le.trans {a b c : ak} (h : a.le b) (k : b.le c) : a.le c :=
  ⟨Nat.le_trans h.next k.next,fun i hi => (k.blk i (Nat.lt_of_lt_of_le hi h.next)).trans (h.blk i hi)⟩
theorem ak.le_push (σ : ak) (b : Blk) : σ.le (σ.push b) := ⟨Nat.le_succ _,fun i hi => by simp [ak.push]; omega⟩
theorem ak.le.at_ {σ σ' : ak} (h : σ.le σ') {i : Nat} (hi : i < σ.next) : σ'.at i = σ.at i := by
  rw [ak.at_lt hi,ak.at_lt (Nat.lt_of_lt_of_le hi h.next),h.blk i hi]
theorem ak.le.load {σ σ' : ak} (h : σ.le σ') {i o : Nat} {v : Value} (hl : σ.load i o = some v) : σ'.load i o = some v := by
  have hi : i < σ.next := by
    refine ak.lt_of_at ?_
    unfold ak.load at hl
    cases hq : σ.at i <;> rw [hq] at hl <;> first | rfl | cases hl
  unfold ak.load at *
  rw [h.at_ hi]
  exact hl
def Blk.ro : Blk → Blk
  | .cells t cs _ => .cells t cs .ro
  | .map _ => .dead
  | .dead => .dead
def ak.ro (σ : ak) : ak := { σ with blk := fun i => (σ.blk i).ro }
theorem Rep.ro {B : Nat} {w0 : World} {σ : ak} {m : Mp} {w : World} (h : Rep B w0 σ m w) : Rep w.heap.size w σ.ro m w where
  next := h.next
  below := Below.refl _ _
  base := Nat.le_refl _
  blk := fun i hi => by
    have hb := h.blk i hi
    simp only [ak.ro]
    cases hq : σ.blk i with
    | dead => trivial
    | map es => trivial
    | cells t cs md =>
      rw [hq] at hb
      obtain ⟨c,t',fz,h1,h2,h3⟩ := hb
      exact ⟨c,t',fz,h1,h2,fun e => (e rfl).elim⟩
  apart := fun i j hi hj hij hr hl => by
    simp only [ak.ro] at hr
    cases hq : σ.blk i <;> rw [hq] at hr <;> simp [Blk.ro,Blk.own] at hr
theorem ak.ro_at (σ : ak) (i : Nat) : σ.ro.at i = (σ.at i).ro := by unfold ak.at ak.ro; simp only; split <;> rfl
theorem ak.ro_load {σ : ak} {i o : Nat} : σ.ro.load i o = σ.load i o := by
  unfold ak.load; rw [ak.ro_at]; cases σ.at i <;> rfl
end Go.Proofs.Ytdcfoaafkppojaa.Sh
