import Derived.WalkKit
import Derived.Below
import Derived.Deep.Draws
import Derived.Still
import Derived.Orders
import Derived.Laws.AppendOwn
import Derived.Laws.CopyRow
import Derived.ChangeKeysEq
import Derived.Maps.Keyed
set_option linter.unusedVariables false
set_option linter.unusedSimpArgs false
namespace Go.Proofs.Ytgkkienmocpnbaa.Sh
open Go Go.RowKit
structure Loc where
 b:Nat
 base:Nat
 room:Nat
 deriving Inhabited
structure Mp where
 n:Nat
 l:Nat → Loc
structure Mp.le (m m':Mp):Prop where
 n:m.n ≤ m'.n
 l:∀ i,i < m.n → m'.l i = m.l i
theorem Mp.le.refl (m:Mp):m.le m:=⟨Nat.le_refl _,fun _ _ => rfl⟩
theorem Mp.le.trans {a b c:Mp} (h:a.le b) (k:b.le c):a.le c :=
 ⟨Nat.le_trans h.n k.n,fun i hi => (k.l i (Nat.lt_of_lt_of_le hi h.n)).trans (h.l i hi)⟩
inductive bm (m:Mp):Value → Value → Prop where
 | bool (b:Bool):bm m (.bool b) (.bool b)
 | int (k:IntKind) (n:Int):bm m (.int k n) (.int k n)
 | string (s:ByteArray):bm m (.string s) (.string s)
 | nilP:bm m (.pointer none) (.pointer none)
 | ptr (i o:Nat) (h:i < m.n):bm m (.pointer (some ⟨i,o,none⟩)) (.pointer (some ⟨(m.l i).b,(m.l i).base + o,none⟩))
 | nilS:bm m (.slice none 0 0) (.slice none 0 0)
 | slice (i o n s k:Nat) (h:i < m.n) (hk:n ≤ k) (hr:o + k * s = (m.l i).room) :
  bm m (.slice (some ⟨i,o,none⟩) n s) (.slice (some ⟨(m.l i).b,(m.l i).base + o,none⟩) n k)
 | sliceE (i o s:Nat) (a:Addr):bm m (.slice (some ⟨i,o,none⟩) 0 s) (.slice (some a) 0 0)
 | nilM:bm m (.map none) (.map none)
 | map (i:Nat) (h:i < m.n):bm m (.map (some i)) (.map (some (m.l i).b))
 | nilF:bm m .nilFunc .nilFunc
 | nilI:bm m .nilIface .nilIface
 | func (fn:Fn) (a b c d:Array Value) (ha:a.size = c.size) (hb:b.size = d.size)
  (h1:∀ i,i < a.size → bm m (a.getD i undef) (c.getD i undef)) (h2:∀ i,i < b.size → bm m (b.getD i undef) (d.getD i undef)) :
  bm m (.func fn a b) (.func fn c d)
 | agg (a b:Array Value) (hs:a.size = b.size) (h:∀ i,i < a.size → bm m (a.getD i undef) (b.getD i undef)):bm m (.agg a) (.agg b)
 | tuple (a b:Array Value) (hs:a.size = b.size) (h:∀ i,i < a.size → bm m (a.getD i undef) (b.getD i undef)):bm m (.tuple a) (.tuple b)
theorem bm.undef (m:Mp):bm m undef undef:=.tuple _ _ rfl (by intro i hi; simp at hi)
theorem bm.mono {m m':Mp} (hm:m.le m') {v c:Value} (h:bm m v c):bm m' v c:=by
 induction h with
 | bool b => exact .bool b
 | int k n => exact .int k n
 | string s => exact .string s
 | nilP => exact .nilP
 | ptr i o h => rw [← hm.l i h]; exact .ptr i o (Nat.lt_of_lt_of_le h hm.n)
 | nilS => exact .nilS
 | slice i o n s k h hk hr => rw [← hm.l i h] at *; exact .slice i o n s k (Nat.lt_of_lt_of_le h hm.n) hk hr
 | sliceE i o s ae => exact .sliceE i o s ae
 | nilM => exact .nilM
 | map i h => rw [← hm.l i h]; exact .map i (Nat.lt_of_lt_of_le h hm.n)
 | nilF => exact .nilF
 | nilI => exact .nilI
 | func fn a b c d ha hb h1 h2 ih1 ih2 => exact .func fn a b c d ha hb ih1 ih2
 | agg a b hs h ih => exact .agg a b hs ih
 | tuple a b hs h ih => exact .tuple a b hs ih
section inv
variable {m:Mp} {c:Value}
theorem zbl8 {b:Bool} (h:bm m (.bool b) c):c = .bool b:=by cases h; rfl
theorem tw {k:IntKind} {n:Int} (h:bm m (.int k n) c):c = .int k n:=by cases h; rfl
theorem zbmo {s:ByteArray} (h:bm m (.string s) c):c = .string s:=by cases h; rfl
theorem w7 (h:bm m (.pointer none) c):c = .pointer none:=by cases h; rfl
theorem zbni {a:Addr} (h:bm m (.pointer (some a)) c):a.spot = none ∧ a.block < m.n ∧ c = .pointer (some ⟨(m.l a.block).b,(m.l a.block).base + a.off,none⟩):=by
 cases h; exact ⟨rfl,by assumption,rfl⟩
theorem ww {n k:Nat} (h:bm m (.slice none n k) c):n = 0 ∧ k = 0 ∧ c = .slice none 0 0:=by cases h; exact ⟨rfl,rfl,rfl⟩
end inv
def scalar:Value → Bool
 | .agg _ | .tuple _ => false
 | _ => true
theorem bm.scalar {m:Mp} {v c:Value} (h:bm m v c):scalar c = scalar v:=by cases h <;> rfl
inductive Md where
 | ro | app | rw
 deriving DecidableEq
inductive Blk where
 | dead
 | cells (t:TypeId) (cs:List Value) (md:Md)
 | map (es:List (Value × Value))
def Blk.own:Blk → Bool
 | .cells _ _ .ro => false
 | .cells _ _ _ => true
 | .map _ => true
 | .dead => false
def Blk.isRw:Blk → Bool
 | .cells _ _ .rw => true
 | .map _ => true
 | _ => false
theorem Blk.own_of_rw {b:Blk} (h:b.isRw = true):b.own = true:=by
 cases b with
 | cells t cs md => cases md <;> first | rfl | cases h
 | map es => rfl
 | dead => cases h
def zbfw (bi:Blk) (lj:Loc) (bj:Blk):Prop :=
 match bi,bj with
 | .cells _ cs .app,.cells _ cs' .ro => lj.base + cs'.length ≤ cs.length
 | _,_ => False
theorem n8 {bi:Blk} {lj:Loc} {bj:Blk} (h:zbfw bi lj bj):∃ t cs t' cs',bi = .cells t cs .app ∧ bj = .cells t' cs' .ro ∧ lj.base + cs'.length ≤ cs.length:=by
 unfold zbfw at h
 split at h
 · exact ⟨_,_,_,_,rfl,rfl,h⟩
 · exact h.elim
theorem zaqe {bi:Blk} {lj:Loc} {bj:Blk} (h:bi.isRw = true):¬ zbfw bi lj bj:=by
 intro e
 obtain ⟨_,_,_,_,rfl,_⟩:=n8 e
 cases h
def Blk.live:Blk → Bool
 | .dead => false
 | _ => true
theorem Blk.live_of_own {b:Blk} (h:b.own = true):b.live = true:=by cases b <;> first | rfl | cases h
structure ah where
 next:Nat
 blk:Nat → Blk
def ah.set (σ:ah) (i:Nat) (b:Blk):ah:={ σ with blk:=fun j => if j = i then b else σ.blk j }
def ah.push (σ:ah) (b:Blk):ah:={ next:=σ.next + 1,blk:=fun j => if j = σ.next then b else σ.blk j }
def ah.at (σ:ah) (i:Nat):Blk:=if i < σ.next then σ.blk i else .dead
theorem ah.at_lt {σ:ah} {i:Nat} (h:i < σ.next):σ.at i = σ.blk i:=by simp [ah.at,h]
theorem ah.at_push_new (σ:ah) (b:Blk):(σ.push b).at σ.next = b:=by simp [ah.at,ah.push]
theorem ah.at_push_ne (σ:ah) (b:Blk) {i:Nat} (h:i ≠ σ.next):(σ.push b).at i = σ.at i:=by
 have:i < σ.next + 1 ↔ i < σ.next:=by omega
 simp [ah.at,ah.push,h,this]
theorem ah.at_set_same (σ:ah) {i:Nat} (b:Blk) (h:i < σ.next):(σ.set i b).at i = b:=by simp [ah.at,ah.set,h]
theorem ah.at_set_ne (σ:ah) {i j:Nat} (b:Blk) (h:j ≠ i):(σ.set i b).at j = σ.at j:=by simp [ah.at,ah.set,h]
theorem ah.lt_of_at {σ:ah} {i:Nat} (h:(σ.at i).live = true):i < σ.next:=by
 unfold ah.at at h
 split at h
 · assumption
 · cases h
def ah.load (σ:ah) (i o:Nat):Option Value :=
 match σ.at i with
 | .cells _ cs _ => cs[o]?
 | _ => none
def vp (B:Nat) (m:Mp) (w:World) (l:Loc):Blk → Prop
 | .dead => True
 | .cells t cs md => ∃ c t' fz,w.heap[l.b]? = some (.cells c t' fz) ∧
  (∀ j,j < cs.length → l.base + j < c.size ∧ bm m (cs.getD j undef) (c.getD (l.base + j) undef) ∧ scalar (cs.getD j undef) = true) ∧
  (md ≠ .ro → B ≤ l.b ∧ t' = t ∧ l.base = 0 ∧ c.size = l.room ∧ (∀ o,o < c.size → ¬ (fz.1 ≤ o ∧ o < fz.2)))
 | .map es => B ≤ l.b ∧ ∃ ents clock,w.heap[l.b]? = some (.map ents clock) ∧ ents.size = es.length ∧
  ∀ j,j < es.length → bm m (es.getD j (undef,undef)).1 (ents.getD j default).key ∧ bm m (es.getD j (undef,undef)).2 (ents.getD j default).val
structure Rep (B:Nat) (w0:World) (σ:ah) (m:Mp) (w:World):Prop where
 next:m.n = σ.next
 below:Below B w0 w
 base:B ≤ w0.heap.size
 blk:∀ i,i < σ.next → vp B m w (m.l i) (σ.blk i)
 apart:∀ i j,i < σ.next → j < σ.next → i ≠ j → (σ.blk i).own = true → (σ.blk j).live = true → (m.l i).b ≠ (m.l j).b ∨ zbfw (σ.blk i) (m.l j) (σ.blk j)
theorem vp.mono {B:Nat} {m m':Mp} {w:World} {l:Loc} {b:Blk} (hm:m.le m') (h:vp B m w l b):vp B m' w l b:=by
 cases b with
 | dead => trivial
 | cells t cs md =>
  obtain ⟨c,t',fz,h1,h2,h3⟩:=h
  exact ⟨c,t',fz,h1,fun j hj => ⟨(h2 j hj).1,(h2 j hj).2.1.mono hm,(h2 j hj).2.2⟩,h3⟩
 | map es =>
  obtain ⟨hB,e,k,h1,h2,h3⟩:=h
  exact ⟨hB,e,k,h1,h2,fun j hj => ⟨(h3 j hj).1.mono hm,(h3 j hj).2.mono hm⟩⟩
theorem vp.world {B:Nat} {m:Mp} {w w':World} {l:Loc} {b:Blk} (hw:w'.heap[l.b]? = w.heap[l.b]?) (h:vp B m w l b):vp B m w' l b:=by
 cases b with
 | dead => trivial
 | cells t cs md =>
  obtain ⟨c,t',fz,h1,h2⟩:=h
  exact ⟨c,t',fz,by rw [hw]; exact h1,h2⟩
 | map es =>
  obtain ⟨hB,e,k,h1,h2⟩:=h
  exact ⟨hB,e,k,by rw [hw]; exact h1,h2⟩
theorem vp.lt {B:Nat} {m:Mp} {w:World} {l:Loc} {b:Blk} (hb:b.live = true) (h:vp B m w l b):l.b < w.heap.size:=by
 cases b with
 | dead => cases hb
 | cells t cs md => obtain ⟨c,t',fz,h1,_⟩:=h; exact (Array.getElem?_eq_some_iff.1 h1).1
 | map es => obtain ⟨_,e,k,h1,_⟩:=h; exact (Array.getElem?_eq_some_iff.1 h1).1
theorem Rep.apart_rw {B:Nat} {w0:World} {σ:ah} {m:Mp} {w:World} (h:Rep B w0 σ m w) {i j:Nat} (hi:i < σ.next) (hj:j < σ.next) (hij:i ≠ j) (hr:(σ.blk i).isRw = true) (hl:(σ.blk j).live = true):(m.l i).b ≠ (m.l j).b :=
 (h.apart i j hi hj hij (Blk.own_of_rw hr) hl).resolve_right (zaqe hr)
theorem Rep.later {B:Nat} {w0:World} {σ:ah} {m:Mp} {w w':World} (h:Rep B w0 σ m w) (hw:Below w.heap.size w w'):Rep B w0 σ m w' where
 next:=h.next
 below:=h.below.trans ⟨hw.os,hw.tape,hw.output,hw.size,fun i hi => hw.block i (Nat.lt_of_lt_of_le hi (Nat.le_trans h.base h.below.size))⟩
 base:=h.base
 blk:=fun i hi => by
  have hb:=h.blk i hi
  cases hl:(σ.blk i).live with
  | false => cases hq:σ.blk i <;> simp_all [Blk.live,vp]
  | true => exact hb.world (hw.block _ (hb.lt hl))
 apart:=h.apart
theorem Rep.drew {B:Nat} {w0:World} {σ:ah} {m:Mp} {w:World} (h:Rep B w0 σ m w):Rep B w0 σ m { w with drawn:=w.drawn + 1 } :=
 h.later ⟨rfl,rfl,rfl,Nat.le_refl _,fun _ _ => rfl⟩
structure ah.le (σ σ':ah):Prop where
 next:σ.next ≤ σ'.next
 blk:∀ i,i < σ.next → σ'.blk i = σ.blk i
theorem ah.le.refl (σ:ah):σ.le σ:=⟨Nat.le_refl _,fun _ _ => rfl⟩
theorem ah.le.trans {a b c:ah} (h:a.le b) (k:b.le c):a.le c :=
 ⟨Nat.le_trans h.next k.next,fun i hi => (k.blk i (Nat.lt_of_lt_of_le hi h.next)).trans (h.blk i hi)⟩
theorem ah.le_push (σ:ah) (b:Blk):σ.le (σ.push b):=⟨Nat.le_succ _,fun i hi => by simp [ah.push]; omega⟩
theorem ah.le.at_ {σ σ':ah} (h:σ.le σ') {i:Nat} (hi:i < σ.next):σ'.at i = σ.at i:=by
 rw [ah.at_lt hi,ah.at_lt (Nat.lt_of_lt_of_le hi h.next),h.blk i hi]
theorem ah.le.load {σ σ':ah} (h:σ.le σ') {i o:Nat} {v:Value} (hl:σ.load i o = some v):σ'.load i o = some v:=by
 have hi:i < σ.next:=by
  refine ah.lt_of_at ?_
  unfold ah.load at hl
  cases hq:σ.at i <;> rw [hq] at hl <;> first | rfl | cases hl
 unfold ah.load at *
 rw [h.at_ hi]
 exact hl
def Blk.ro:Blk → Blk
 | .cells t cs _ => .cells t cs .ro
 | .map _ => .dead
 | .dead => .dead
def ah.ro (σ:ah):ah:={ σ with blk:=fun i => (σ.blk i).ro }
theorem Rep.ro {B:Nat} {w0:World} {σ:ah} {m:Mp} {w:World} (h:Rep B w0 σ m w):Rep w.heap.size w σ.ro m w where
 next:=h.next
 below:=Below.refl _ _
 base:=Nat.le_refl _
 blk:=fun i hi => by
  have hb:=h.blk i hi
  simp only [ah.ro]
  cases hq:σ.blk i with
  | dead => trivial
  | map es => trivial
  | cells t cs md =>
   rw [hq] at hb
   obtain ⟨c,t',fz,h1,h2,h3⟩:=hb
   exact ⟨c,t',fz,h1,h2,fun e => (e rfl).elim⟩
 apart:=fun i j hi hj hij hr hl => by
  simp only [ah.ro] at hr
  cases hq:σ.blk i <;> rw [hq] at hr <;> simp [Blk.ro,Blk.own] at hr
theorem ah.ro_at (σ:ah) (i:Nat):σ.ro.at i = (σ.at i).ro:=by unfold ah.at ah.ro; simp only; split <;> rfl
end Go.Proofs.Ytgkkienmocpnbaa.Sh
namespace Go.Proofs.Ytgkkienmocpnbaa.Sh
open Go Go.RowKit
theorem zbz5 (v:Value):v.oneCell' = scalar v:=by cases v <;> rfl
theorem iz (b o n:Nat):(⟨b,o,none⟩:Addr).add n = ⟨b,o + n,none⟩:=by unfold Addr.add; split <;> simp_all
section mem
variable {B:Nat} {w0:World} {σ:ah} {m:Mp} {w:World}
theorem Rep.cell (h:Rep B w0 σ m w) {i o:Nat} (hi:i < σ.next) {v:Value} (hl:σ.load i o = some v) :
 ∃ c,w.cell? ⟨(m.l i).b,(m.l i).base + o,none⟩ = some c ∧ bm m v c ∧ scalar v = true:=by
 unfold ah.load at hl
 rw [ah.at_lt hi] at hl
 have hb:=h.blk i hi
 cases hq:σ.blk i with
 | dead => rw [hq] at hl; cases hl
 | map es => rw [hq] at hl; cases hl
 | cells t cs rw_ =>
  rw [hq] at hl hb
  obtain ⟨c,t',fz,h1,h2,h3⟩:=hb
  obtain ⟨ho,hv⟩:=List.getElem?_eq_some_iff.1 hl
  obtain ⟨h4,h5,h6⟩:=h2 o ho
  have e1:cs.getD o undef = v:=by rw [← hv]; simp [List.getD,List.getElem?_eq_getElem ho]
  rw [e1] at h5 h6
  refine ⟨c.getD ((m.l i).base + o) undef,?_,h5,h6⟩
  simp [World.cell?,h1,Array.getD,h4]
def ah.row (σ:ah) (i o n:Nat):Option (List Value) :=
 match σ.at i with
 | .cells _ cs _ => if o + n ≤ cs.length then some ((cs.drop o).take n) else none
 | _ => none
theorem ah.row_load {σ:ah} {i o n:Nat} {vs:List Value} (h:σ.row i o n = some vs):vs.length = n ∧ ∀ j,j < n → σ.load i (o + j) = some (vs.getD j undef):=by
 unfold ah.row at h
 cases hq:σ.at i with
 | dead => rw [hq] at h; cases h
 | map es => rw [hq] at h; cases h
 | cells t cs rw_ =>
  rw [hq] at h
  simp only at h
  split at h
  · rename_i hn
    injection h with h
    subst h
    refine ⟨by simp; omega,fun j hj => ?_⟩
    simp only [ah.load,hq]
    have hlt:o + j < cs.length:=by omega
    simp [List.getD,List.getElem?_take,hj,List.getElem?_drop,List.getElem?_eq_getElem hlt]
  · cases h
theorem Rep.row (P:Program) (h:Rep B w0 σ m w) {i o n:Nat} (hi:i < σ.next) {vs:List Value} (hl:σ.row i o n = some vs) :
 ∃ cs:List Value,cs.length = vs.length ∧ (loadCells ⟨(m.l i).b,(m.l i).base + o,none⟩ n).run P w = .ok cs.toArray w ∧ (∀ j,j < vs.length → bm m (vs.getD j undef) (cs.getD j undef)) ∧
  (∀ j,j < vs.length → scalar (vs.getD j undef) = true) ∧ (∀ j,j < vs.length → w.cell? ⟨(m.l i).b,(m.l i).base + o + j,none⟩ = some (cs.getD j undef)):=by
 obtain ⟨hn,hj⟩:=ah.row_load hl
 have hex:∀ j,j < n → ∃ c,w.cell? ⟨(m.l i).b,(m.l i).base + (o + j),none⟩ = some c ∧ bm m (vs.getD j undef) c ∧ scalar (vs.getD j undef) = true :=
  fun j hjn => h.cell hi (hj j hjn)
 let f:Nat → Value:=fun j => (w.cell? ⟨(m.l i).b,(m.l i).base + (o + j),none⟩).getD undef
 have hf:∀ j,j < n → w.cell? ((⟨(m.l i).b,(m.l i).base + o,none⟩:Addr).add j) = some (f j):=fun j hjn => by
  obtain ⟨c,hc,_⟩:=hex j hjn
  rw [iz,Nat.add_assoc]
  simp [f,hc]
 have hg:∀ j,j < n → ((List.range n).map f).getD j undef = f j:=fun j hjn => by simp [List.getD,hjn]
 refine ⟨(List.range n).map f,by simp [hn],run_loadCells w _ n f hf,fun j hjn => ?_,fun j hjn => ?_,fun j hjn => ?_⟩
 · obtain ⟨c,hc,hv,_⟩:=hex j (by omega)
   rw [hg j (by omega)]
   simpa [f,hc] using hv
 · exact (hex j (by omega)).choose_spec.2.2
 · rw [hg j (by omega)]
   have:=hf j (by omega)
   rw [iz] at this
   exact this
theorem ah.le.row {σ σ':ah} (h:σ.le σ') {i o n:Nat} {vs:List Value} (hl:σ.row i o n = some vs):σ'.row i o n = some vs:=by
 have hi:i < σ.next:=by
  refine ah.lt_of_at ?_
  unfold ah.row at hl
  cases hq:σ.at i <;> rw [hq] at hl <;> first | rfl | cases hl
 unfold ah.row at *
 rw [h.at_ hi]
 exact hl
def ah.store1 (σ:ah) (i o:Nat) (v:Value):Option ah :=
 match σ.at i with
 | .cells t cs .rw => if o < cs.length ∧ scalar v = true then some (σ.set i (.cells t (cs.set o v) .rw)) else none
 | _ => none
theorem zb0t {w:World} {b o:Nat} {c:Array Value} {t:TypeId} {fz:Nat × Nat} (h:w.heap[b]? = some (.cells c t fz)) (x:Value) :
 (w.setCell ⟨b,o,none⟩ x).heap[b]? = some (.cells (c.setIfInBounds o x) t fz):=by
 simp [World.setCell,Array.getElem?_modify,h]
theorem Rep.store1 (P:Program) (h:Rep B w0 σ m w) {i o:Nat} (hi:i < σ.next) {v c:Value} {σ':ah} (hs:σ.store1 i o v = some σ') (hv:bm m v c) :
 (store ⟨(m.l i).b,(m.l i).base + o,none⟩ c).run P w = .ok () (w.setCell ⟨(m.l i).b,(m.l i).base + o,none⟩ c) ∧
  Rep B w0 σ' m (w.setCell ⟨(m.l i).b,(m.l i).base + o,none⟩ c):=by
 unfold ah.store1 at hs
 rw [ah.at_lt hi] at hs
 have hb:=h.blk i hi
 cases hq:σ.blk i with
 | dead => rw [hq] at hs; cases hs
 | map es => rw [hq] at hs; cases hs
 | cells t cs rw_ =>
  cases rw_ with
  | ro => rw [hq] at hs; cases hs
  | app => rw [hq] at hs; cases hs
  | rw =>
   rw [hq] at hs
   simp only at hs
   split at hs
   · rename_i ho
     injection hs with hs
     subst hs
     obtain ⟨ho,hsc⟩:=ho
     rw [hq] at hb
     obtain ⟨cc,t',fz,h1,h2,h3⟩:=hb
     obtain ⟨h4,h5,h6,h7,h8⟩:=h3 (by simp)
     obtain ⟨g1,g2,g3⟩:=h2 o ho
     have hcell:w.cell? ⟨(m.l i).b,(m.l i).base + o,none⟩ = some (cc.getD ((m.l i).base + o) undef):=by
      simp [World.cell?,h1,Array.getD,g1]
     have hfz:w.frozen? ⟨(m.l i).b,(m.l i).base + o,none⟩ = false:=by
      have:=h8 _ g1
      simp only [World.frozen?,h1]
      simpa using this
     refine ⟨?_,?_⟩
     · rw [run_store P w _ c _ (by rw [zbz5,hv.scalar]; exact hsc),hcell]
       simp [hfz]
     · refine ⟨h.next,h.below.setCell h4 c,h.base,fun j hj => ?_,fun a b ha hb' hab hr hl => ?_⟩
       · by_cases hji:j = i
         · subst hji
           simp only [ah.set,if_true]
           refine ⟨_,t',fz,zb0t h1 c,fun q hq' => ?_,fun _ => ⟨h4,h5,h6,by simpa using h7,fun q hq' => h8 q (by simpa using hq')⟩⟩
           have hq2:q < cs.length:=by simpa using hq'
           obtain ⟨k1,k2,k3⟩:=h2 q hq2
           refine ⟨by simpa using k1,?_,?_⟩
           · by_cases hqo:q = o
             · subst hqo
               have e1:(cs.set q v).getD q undef = v:=by simp [List.getD,hq2]
               have e2:(cc.setIfInBounds ((m.l j).base + q) c).getD ((m.l j).base + q) undef = c:=by simp [Array.getD,k1]
               rw [e1,e2]
               exact hv
             · have e1:(cs.set o v).getD q undef = cs.getD q undef:=by simp [List.getD,List.getElem?_set,Ne.symm hqo]
               have e2:(cc.setIfInBounds ((m.l j).base + o) c).getD ((m.l j).base + q) undef = cc.getD ((m.l j).base + q) undef:=by
                simp only [Array.getD_eq_getD_getElem?]
                rw [Array.getElem?_setIfInBounds_ne (by omega)]
               rw [e1,e2]
               exact k2
           · by_cases hqo:q = o
             · subst hqo
               simpa [List.getD,hq2] using hsc
             · have e1:(cs.set o v).getD q undef = cs.getD q undef:=by simp [List.getD,List.getElem?_set,Ne.symm hqo]
               rw [e1]; exact k3
         · simp only [ah.set,if_neg hji]
           have hbj:=h.blk j hj
           cases hl:(σ.blk j).live with
           | false => cases hqj:σ.blk j <;> simp_all [Blk.live,vp]
           | true =>
            refine hbj.world ?_
            rw [Below.heap_setCell]
            have:=h.apart_rw hi hj (Ne.symm hji) (by rw [hq]; rfl) hl
            exact fun e => this e.symm
       · have q:=h.apart a b ha hb' hab (by
          by_cases hai:a = i
          · subst hai; rw [hq]; rfl
          · simpa [ah.set,hai] using hr) (by
          by_cases hbi:b = i
          · subst hbi; rw [hq]; rfl
          · simpa [ah.set,hbi] using hl)
         refine q.imp id fun hs => ?_
         obtain ⟨t1,c1,t2,c2,e1,e2,_⟩:=n8 hs
         have hai:a ≠ i:=by rintro rfl; rw [hq] at e1; cases e1
         have hbi:b ≠ i:=by rintro rfl; rw [hq] at e2; cases e2
         simpa [ah.set,hai,hbi] using hs
   · cases hs
def ah.store (σ:ah) (i o:Nat):List Value → Option ah
 | [] => some σ
 | v :: r => (σ.store1 i o v).bind fun σ' => σ'.store i (o + 1) r
theorem ah.store1_next {σ σ':ah} {i o:Nat} {v:Value} (h:σ.store1 i o v = some σ'):σ'.next = σ.next:=by
 unfold ah.store1 at h
 split at h
 · split at h
   · injection h with h; subst h; rfl
   · cases h
 · cases h
theorem Rep.store (P:Program) {i:Nat} (a b:Nat) (ha:(m.l i).b = a) (hb:(m.l i).base = b):∀ (vs cs:List Value) (σ:ah) (w:World) (o k:Nat),Rep B w0 σ m w → i < σ.next → ∀ {σ':ah},σ.store i (o + k) vs = some σ' → cs.length = vs.length →
 (∀ j,j < vs.length → bm m (vs.getD j undef) (cs.getD j undef)) →
 ∃ w',(storeCells ⟨a,b + o,none⟩ cs k).run P w = .ok () w' ∧ Rep B w0 σ' m w':=by
 intro vs
 induction vs with
 | nil =>
  intro cs σ w o k h hi σ' hs hl hv
  cases cs with
  | nil =>
   injection hs with hs
   subst hs
   exact ⟨w,rfl,h⟩
  | cons c r => simp at hl
 | cons v r ih =>
  intro cs σ w o k h hi σ' hs hl hv
  cases cs with
  | nil => simp at hl
  | cons c cr =>
   simp only [ah.store] at hs
   cases hs1:σ.store1 i (o + k) v with
   | none => rw [hs1] at hs; cases hs
   | some σ1 =>
    rw [hs1] at hs
    simp only [Option.bind_some] at hs
    have hv0:bm m v c:=by simpa [List.getD] using hv 0 (by simp)
    obtain ⟨r1,r2⟩:=h.store1 P hi hs1 hv0
    rw [ha,hb] at r1 r2
    have hvr:∀ j,j < r.length → bm m (r.getD j undef) (cr.getD j undef):=fun j hj => by simpa [List.getD] using hv (j + 1) (by simpa using hj)
    obtain ⟨w',e1,e2⟩:=ih cr σ1 _ o (k + 1) r2 (by rw [ah.store1_next hs1]; exact hi) (by rw [← Nat.add_assoc]; exact hs) (by simpa using hl) hvr
    refine ⟨w',?_,e2⟩
    simp only [storeCells,Sem.run_bind]
    rw [iz,Nat.add_assoc,r1]
    simp only [Result.andThen_ok]
    exact e1
def Mp.push (m:Mp) (l:Loc):Mp:=⟨m.n + 1,fun i => if i = m.n then l else m.l i⟩
theorem Mp.le_push (m:Mp) (l:Loc):m.le (m.push l):=⟨Nat.le_succ _,fun i hi => by simp [Mp.push]; omega⟩
theorem Rep.pushArr (h:Rep B w0 σ m w) (t:TypeId) (cs:List Value) (arr:Array Value) (hle:cs.length ≤ arr.size)
 (hv:∀ j,j < cs.length → bm m (cs.getD j undef) (arr.getD j undef)) (h1:∀ j,j < cs.length → scalar (cs.getD j undef) = true) (fz:Nat × Nat) (hfz:∀ o,o < arr.size → ¬ (fz.1 ≤ o ∧ o < fz.2))
 {w':World} (hw:Below w.heap.size w w') (hn:w'.heap[w.heap.size]? = some (.cells arr t fz)) (md:Md:=.rw) :
 Rep B w0 (σ.push (.cells t cs md)) (m.push ⟨w.heap.size,0,arr.size⟩) w':=by
 have hB:B ≤ w.heap.size:=Nat.le_trans h.base h.below.size
 have h':=h.later hw
 have key:∀ k,k < σ.next → ((σ.push (.cells t cs md)).blk k) = σ.blk k:=fun k hk => by simp [ah.push]; omega
 have kem:∀ k,k < σ.next → (m.push ⟨w.heap.size,0,arr.size⟩).l k = m.l k:=fun k hk => by simp [Mp.push,h.next]; omega
 have knw:(m.push ⟨w.heap.size,0,arr.size⟩).l σ.next = ⟨w.heap.size,0,arr.size⟩:=by simp [Mp.push,h.next]
 refine ⟨by simp [Mp.push,ah.push,h.next],h'.below,h.base,fun i hi => ?_,fun i j hi hj hij hr hl => ?_⟩
 · have hi2:i < σ.next + 1:=hi
   by_cases hin:i = σ.next
   · subst hin
     rw [knw]
     have e1:(σ.push (.cells t cs md)).blk σ.next = .cells t cs md:=by simp [ah.push]
     rw [e1]
     refine ⟨arr,t,fz,hn,fun j hj => ⟨by simp; omega,?_,h1 j hj⟩,fun _ => ⟨hB,rfl,rfl,rfl,hfz⟩⟩
     have:=(hv j hj).mono (m.le_push ⟨w.heap.size,0,arr.size⟩)
     simpa using this
   · have hi':i < σ.next:=by omega
     rw [kem i hi',key i hi']
     exact (h'.blk i hi').mono (m.le_push _)
 · have hi2:i < σ.next + 1:=hi
   have hj2:j < σ.next + 1:=hj
   by_cases hin:i = σ.next
   · have hj':j < σ.next:=by omega
     rw [hin,knw,kem j hj']
     rw [key j hj'] at hl
     have:=(h.blk j hj').lt hl
     simp only
     left
     omega
   · have hi':i < σ.next:=by omega
     rw [key i hi'] at hr
     by_cases hjn:j = σ.next
     · rw [hjn,knw,kem i hi']
       have:=(h.blk i hi').lt (Blk.live_of_own hr)
       simp only
       left
       omega
     · have hj':j < σ.next:=by omega
       rw [key j hj'] at hl
       rw [kem i hi',kem j hj',key i hi',key j hj']
       exact h.apart i j hi' hj' hij hr hl
theorem Rep.pushCells (h:Rep B w0 σ m w) (t:TypeId) (cs cc:List Value) (rest:List Value) (hl:cc.length = cs.length)
 (hv:∀ j,j < cs.length → bm m (cs.getD j undef) (cc.getD j undef)) (h1:∀ j,j < cs.length → scalar (cs.getD j undef) = true) (fz:Nat × Nat) (hfz:∀ o,o < cs.length + rest.length → ¬ (fz.1 ≤ o ∧ o < fz.2)) :
 Rep B w0 (σ.push (.cells t cs .rw)) (m.push ⟨w.heap.size,0,cs.length + rest.length⟩) (w.alloc (.cells (cc ++ rest).toArray t fz)):=by
 have:=h.pushArr t cs (cc ++ rest).toArray (by simp [hl]) (fun j hj => by
  have e:(cc ++ rest).toArray.getD j undef = cc.getD j undef:=by
   have hj':j < cc.length:=by omega
   simp [Array.getD_eq_getD_getElem?,List.getD,List.getElem?_append_left hj']
  rw [e]; exact hv j hj) h1 fz (fun o ho => hfz o (by simpa [hl] using ho)) (w':=w.alloc (.cells (cc ++ rest).toArray t fz))
  ⟨rfl,rfl,rfl,by simp,fun k hk => Below.heap_alloc _ _ _ hk⟩ (heap_alloc_new w _)
 simpa [hl] using this
theorem Rep.kill (h:Rep B w0 σ m w) (i:Nat):Rep B w0 (σ.set i .dead) m w:=by
 refine ⟨h.next,h.below,h.base,fun j hj => ?_,fun a b ha hb hab hr hl => ?_⟩
 · by_cases e:j = i
   · simp [ah.set,e,vp]
   · simp only [ah.set,if_neg e]; exact h.blk j hj
 · have ea:a ≠ i:=by rintro rfl; simp [ah.set,Blk.own] at hr
   have eb:b ≠ i:=by rintro rfl; simp [ah.set,Blk.live] at hl
   simp only [ah.set,if_neg ea,if_neg eb] at hr hl ⊢
   exact h.apart a b ha hb hab hr hl
theorem Rep.reuse (h:Rep B w0 σ m w) {i:Nat} (hi:i < σ.next) {t:TypeId} {old:List Value} (hq:σ.blk i = .cells t old .rw) (cs:List Value) {w':World} {cur':Array Value} {fz:Nat × Nat}
 (hw:w'.heap[(m.l i).b]? = some (.cells cur' t fz)) (hsz:cur'.size = (m.l i).room) (hfz:∀ o,o < cur'.size → ¬ (fz.1 ≤ o ∧ o < fz.2)) (hB:B ≤ (m.l i).b)
 (hoth:∀ b,b ≠ (m.l i).b → w'.heap[b]? = w.heap[b]?) (hs:w'.heap.size = w.heap.size) (ho:w'.os = w.os) (ht:w'.tape = w.tape) (hou:w'.output = w.output)
 (hle:cs.length ≤ cur'.size) (hv:∀ j,j < cs.length → bm m (cs.getD j undef) (cur'.getD j undef)) (h1:∀ j,j < cs.length → scalar (cs.getD j undef) = true) :
 Rep B w0 ((σ.set i .dead).push (.cells t cs .rw)) (m.push ⟨(m.l i).b,0,(m.l i).room⟩) w':=by
 have hbel:Below B w0 w':=h.below.trans ⟨ho,ht,hou,by omega,fun k hk => hoth k (by omega)⟩
 have hn:(σ.set i .dead).next = σ.next:=rfl
 have key:∀ k,k < σ.next → (((σ.set i .dead).push (.cells t cs .rw)).blk k) = if k = i then .dead else σ.blk k:=fun k hk => by
  have:k ≠ σ.next:=by omega
  simp [ah.push,ah.set,this]
 have kem:∀ k,k < σ.next → (m.push ⟨(m.l i).b,0,(m.l i).room⟩).l k = m.l k:=fun k hk => by simp [Mp.push,h.next]; omega
 have knw:(m.push ⟨(m.l i).b,0,(m.l i).room⟩).l σ.next = ⟨(m.l i).b,0,(m.l i).room⟩:=by simp [Mp.push,h.next]
 refine ⟨by simp [Mp.push,ah.push,ah.set,h.next],hbel,h.base,fun j hj => ?_,fun a b ha hb hab hr hl => ?_⟩
 · have hj2:j < σ.next + 1:=hj
   by_cases hjn:j = σ.next
   · subst hjn
     rw [knw]
     have e1:((σ.set i .dead).push (.cells t cs .rw)).blk σ.next = .cells t cs .rw:=by simp [ah.push,ah.set]
     rw [e1]
     refine ⟨cur',t,fz,hw,fun q hq' => ⟨by simp; omega,?_,h1 q hq'⟩,fun _ => ⟨hB,rfl,rfl,hsz,hfz⟩⟩
     have:=(hv q hq').mono (m.le_push ⟨(m.l i).b,0,(m.l i).room⟩)
     simpa using this
   · have hj':j < σ.next:=by omega
     rw [key j hj',kem j hj']
     by_cases e:j = i
     · rw [if_pos e]; trivial
     · rw [if_neg e]
       have hb:=h.blk j hj'
       cases hlv:(σ.blk j).live with
       | false => cases hqj:σ.blk j <;> simp_all [Blk.live,vp]
       | true =>
        refine (hb.mono (m.le_push _)).world (hoth _ ?_)
        exact fun e2 => h.apart_rw hi hj' (Ne.symm e) (by rw [hq]; rfl) hlv e2.symm
 · have ha2:a < σ.next + 1:=ha
   have hb2:b < σ.next + 1:=hb
   have dead:∀ k,k < σ.next → (((σ.set i .dead).push (.cells t cs .rw)).blk k).live = true → k ≠ i ∧ (σ.blk k).live = true:=fun k hk hlv => by
    rw [key k hk] at hlv
    by_cases e:k = i
    · rw [if_pos e] at hlv; cases hlv
    · rw [if_neg e] at hlv; exact ⟨e,hlv⟩
   have rwlive:∀ k:Blk,k.own = true → k.live = true:=fun k hk => Blk.live_of_own hk
   by_cases han:a = σ.next
   · have hb':b < σ.next:=by omega
     obtain ⟨e1,e2⟩:=dead b hb' hl
     rw [han,knw,kem b hb']
     exact .inl (h.apart_rw hi hb' (Ne.symm e1) (by rw [hq]; rfl) e2)
   · have ha':a < σ.next:=by omega
     obtain ⟨e1,e2⟩:=dead a ha' (rwlive _ hr)
     have hra:(σ.blk a).own = true:=by rw [key a ha',if_neg e1] at hr; exact hr
     by_cases hbn:b = σ.next
     · rw [hbn,knw,kem a ha']
       exact .inl (Ne.symm (h.apart_rw hi ha' (Ne.symm e1) (by rw [hq]; rfl) (Blk.live_of_own hra)))
     · have hb':b < σ.next:=by omega
       obtain ⟨e3,e4⟩:=dead b hb' hl
       rw [kem a ha',kem b hb',key a ha',key b hb',if_neg e1,if_neg e3]
       exact h.apart a b ha' hb' hab hra e4
theorem Rep.reuseA (h:Rep B w0 σ m w) {i:Nat} (hi:i < σ.next) {t:TypeId} {old:List Value} (hq:σ.blk i = .cells t old .app) (cs:List Value) {w':World} {cur cur':Array Value} {fz:Nat × Nat}
 (hw0:w.heap[(m.l i).b]? = some (.cells cur t fz)) (hw:w'.heap[(m.l i).b]? = some (.cells cur' t fz)) (hsame:∀ q,q < old.length → cur'.getD q undef = cur.getD q undef) (hss:cur'.size = cur.size) (hbase:(m.l i).base = 0)
 (hsz:cur'.size = (m.l i).room) (hfz:∀ o,o < cur'.size → ¬ (fz.1 ≤ o ∧ o < fz.2)) (hB:B ≤ (m.l i).b)
 (hoth:∀ b,b ≠ (m.l i).b → w'.heap[b]? = w.heap[b]?) (hs:w'.heap.size = w.heap.size) (ho:w'.os = w.os) (ht:w'.tape = w.tape) (hou:w'.output = w.output)
 (hlc:old.length ≤ cs.length) (hle:cs.length ≤ cur'.size) (hv:∀ j,j < cs.length → bm m (cs.getD j undef) (cur'.getD j undef)) (h1:∀ j,j < cs.length → scalar (cs.getD j undef) = true) :
 Rep B w0 ((σ.set i (.cells t old .ro)).push (.cells t cs .app)) (m.push ⟨(m.l i).b,0,(m.l i).room⟩) w':=by
 have hbel:Below B w0 w':=h.below.trans ⟨ho,ht,hou,by omega,fun k hk => hoth k (by omega)⟩
 have key:∀ k,k < σ.next → (((σ.set i (.cells t old .ro)).push (.cells t cs .app)).blk k) = if k = i then .cells t old .ro else σ.blk k:=fun k hk => by
  have:k ≠ σ.next:=by omega
  simp [ah.push,ah.set,this]
 have kem:∀ k,k < σ.next → (m.push ⟨(m.l i).b,0,(m.l i).room⟩).l k = m.l k:=fun k hk => by simp [Mp.push,h.next]; omega
 have knw:(m.push ⟨(m.l i).b,0,(m.l i).room⟩).l σ.next = ⟨(m.l i).b,0,(m.l i).room⟩:=by simp [Mp.push,h.next]
 have enw:((σ.set i (.cells t old .ro)).push (.cells t cs .app)).blk σ.next = .cells t cs .app:=by simp [ah.push,ah.set]
 -- what zbfw the row
 have shr:∀ j,j < σ.next → j ≠ i → (σ.blk j).live = true → (m.l i).b ≠ (m.l j).b ∨ ∃ t' cs',σ.blk j = .cells t' cs' .ro ∧ (m.l j).base + cs'.length ≤ old.length:=fun j hj hji hl => by
  rcases h.apart i j hi hj (Ne.symm hji) (by rw [hq]; rfl) hl with e | e
  · exact .inl e
  · obtain ⟨_,_,t2,c2,e1,e2,e3⟩:=n8 e
    rw [hq] at e1
    injection e1 with _ e1
    exact .inr ⟨t2,c2,e2,by rw [e1]; exact e3⟩
 refine ⟨by simp [Mp.push,ah.push,ah.set,h.next],hbel,h.base,fun j hj => ?_,fun a b ha hb hab hr hl => ?_⟩
 · have hj2:j < σ.next + 1:=hj
   by_cases hjn:j = σ.next
   · subst hjn
     rw [knw,enw]
     refine ⟨cur',t,fz,hw,fun q hq' => ⟨by simp; omega,?_,h1 q hq'⟩,fun _ => ⟨hB,rfl,rfl,hsz,hfz⟩⟩
     have:=(hv q hq').mono (m.le_push ⟨(m.l i).b,0,(m.l i).room⟩)
     simpa using this
   · have hj':j < σ.next:=by omega
     rw [key j hj',kem j hj']
     have hb:=h.blk j hj'
     by_cases e:j = i
     · subst e
       rw [if_pos rfl]
       rw [hq] at hb
       obtain ⟨c,t',fz',g1,g2,g3⟩:=hb
       rw [hw0] at g1
       injection g1 with g1
       injection g1 with g1 g1' g1''
       subst g1
       refine ⟨cur',t,fz,hw,fun q hq' => ?_,fun e => (e rfl).elim⟩
       obtain ⟨k1,k2,k3⟩:=g2 q hq'
       rw [hbase,Nat.zero_add] at k1 k2 ⊢
       rw [hsame q hq',hss]
       exact ⟨k1,k2.mono (m.le_push _),k3⟩
     · rw [if_neg e]
       cases hlv:(σ.blk j).live with
       | false => cases hqj:σ.blk j <;> simp_all [Blk.live,vp]
       | true =>
        by_cases hbb:(m.l i).b = (m.l j).b
        · rcases shr j hj' e hlv with e1 | ⟨t2,c2,e1,e2⟩
          · exact absurd hbb e1
          · rw [e1] at hb ⊢
            obtain ⟨c,t',fz',g1,g2,g3⟩:=hb
            rw [← hbb,hw0] at g1
            injection g1 with g1
            injection g1 with g1 g1' g1''
            subst g1
            refine ⟨cur',t,fz,by rw [← hbb]; exact hw,fun q hq' => ?_,fun e => (e rfl).elim⟩
            obtain ⟨k1,k2,k3⟩:=g2 q hq'
            rw [hsame _ (by omega),hss]
            exact ⟨k1,k2.mono (m.le_push _),k3⟩
        · exact (hb.mono (m.le_push _)).world (hoth _ (Ne.symm hbb))
 · have ha2:a < σ.next + 1:=ha
   have hb2:b < σ.next + 1:=hb
   have old':∀ k,k < σ.next → (((σ.set i (.cells t old .ro)).push (.cells t cs .app)).blk k).live = true → (σ.blk k).live = true:=fun k hk hlv => by
    rw [key k hk] at hlv
    by_cases e:k = i
    · rw [e,hq]; rfl
    · rw [if_neg e] at hlv; exact hlv
   by_cases han:a = σ.next
   · have hb':b < σ.next:=by omega
     rw [han,knw,kem b hb',enw,key b hb']
     by_cases e:b = i
     · subst e
       rw [if_pos rfl,hbase.symm.trans rfl]
       right
       simp only [zbfw,hbase,Nat.zero_add]
       exact hlc
     · rw [if_neg e]
       rcases shr b hb' e (old' b hb' hl) with e1 | ⟨t2,c2,e1,e2⟩
       · exact .inl e1
       · right
         rw [e1]
         simp only [zbfw]
         omega
   · have ha':a < σ.next:=by omega
     rw [key a ha'] at hr ⊢
     have eai:a ≠ i:=by
      rintro rfl
      rw [if_pos rfl] at hr
      cases hr
     rw [if_neg eai] at hr ⊢
     have hla:=Blk.live_of_own hr
     by_cases hbn:b = σ.next
     · rw [hbn,knw,kem a ha']
       rcases shr a ha' eai hla with e1 | ⟨t2,c2,e1,e2⟩
       · exact .inl (Ne.symm e1)
       · rw [e1] at hr; cases hr
     · have hb':b < σ.next:=by omega
       rw [kem a ha',kem b hb',key b hb']
       have q:=h.apart a b ha' hb' hab hr (old' b hb' hl)
       by_cases ebi:b = i
       · rw [if_pos ebi]
         refine q.imp id fun hs => ?_
         obtain ⟨_,_,t2,c2,e1,e2,_⟩:=n8 hs
         rw [ebi,hq] at e2
         cases e2
       · rw [if_neg ebi]; exact q
theorem o9 (P:Program) (g o:Nat) (t:TypeId) (fz:Nat × Nat):∀ (vs:List Value) (k:Nat) (w:World) (cur:Array Value),w.heap[g]? = some (.cells cur t fz) → o + k + vs.length ≤ cur.size →
 (∀ q,q < cur.size → ¬ (fz.1 ≤ q ∧ q < fz.2)) → (∀ v ∈ vs,scalar v = true) →
 ∃ w' cur',(storeCells ⟨g,o,none⟩ vs k).run P w = .ok () w' ∧ w'.heap[g]? = some (.cells cur' t fz) ∧ cur'.size = cur.size ∧
  (∀ j,cur'.getD j undef = if o + k ≤ j ∧ j < o + k + vs.length then vs.getD (j - (o + k)) undef else cur.getD j undef) ∧
  (∀ b,b ≠ g → w'.heap[b]? = w.heap[b]?) ∧ w'.heap.size = w.heap.size ∧ w'.os = w.os ∧ w'.tape = w.tape ∧ w'.output = w.output
 | [],k,w,cur,hg,hl,hfz,h1 => ⟨w,cur,rfl,hg,rfl,fun j => by rw [if_neg (by simp only [List.length_nil]; omega)],fun _ _ => rfl,rfl,rfl,rfl,rfl⟩
 | v :: r,k,w,cur,hg,hl,hfz,h1 => by
  have hlt:o + k < cur.size:=by simp at hl; omega
  have hcell:w.cell? ⟨g,o + k,none⟩ = some cur[o + k]:=by simp [World.cell?,hg,hlt]
  have hfro:w.frozen? ⟨g,o + k,none⟩ = false:=by
   have:=hfz _ hlt
   simp only [World.frozen?,hg]
   simpa using this
  have hst:(store ((⟨g,o,none⟩:Addr).add k) v).run P w = .ok () (w.setCell ⟨g,o + k,none⟩ v):=by
   rw [iz,run_store P w _ v _ (by rw [zbz5]; exact h1 v (by simp)),hcell]
   simp [hfro]
  obtain ⟨w',cur',e1,e2,e3,e4,e5,e6,e7,e8,e9⟩:=o9 P g o t fz r (k + 1) (w.setCell ⟨g,o + k,none⟩ v) (cur.setIfInBounds (o + k) v) (zb0t hg v) (by simp at hl ⊢; omega) (fun q hq => hfz q (by simpa using hq)) (fun x hx => h1 x (by simp [hx]))
  refine ⟨w',cur',?_,e2,by simpa using e3,fun j => ?_,fun b hb => ?_,by simpa [World.setCell] using e6,by simpa [World.setCell] using e7,by simpa [World.setCell] using e8,by simpa [World.setCell] using e9⟩
  · simp only [storeCells,Sem.run_bind,hst,Result.andThen_ok]
    exact e1
  · rw [e4]
    by_cases hj:j = o + k
    · subst hj
      have:(cur.setIfInBounds (o + k) v).getD (o + k) undef = v:=by simp [Array.getD,hlt]
      rw [if_neg (by omega),if_pos (by simp),this]
      simp [List.getD]
    · by_cases hj2:o + k ≤ j ∧ j < o + k + (v :: r).length
      · rw [if_pos hj2,if_pos (by simp at hj2; omega)]
        have:j - (o + k) = (j - (o + (k + 1))) + 1:=by omega
        rw [this]
        simp [List.getD]
      · rw [if_neg hj2,if_neg (by simp at hj2; omega)]
        simp only [Array.getD_eq_getD_getElem?]
        rw [Array.getElem?_setIfInBounds_ne (fun e => hj e.symm)]
  · rw [e5 b hb,Below.heap_setCell _ _ _ _ hb]
end mem
end Go.Proofs.Ytgkkienmocpnbaa.Sh
namespace Go.Proofs.Ytgkkienmocpnbaa.Sh
open Go Go.RowKit
abbrev Fr:=Nat → Value
def Fr.put (fr:Fr) (d:Option Nat) (v:Value):Fr :=
 match d with
 | some t => fun s => if s = t then v else fr s
 | none => fr
structure gg (m:Mp) (N:Nat) (fr:Fr) (a:Act):Prop where
 defers:a.defers = []
 size:a.tmps.size = N
 at_:∀ t,t < N → bm m (fr t) (a.tmps.getD t undef)
theorem gg.mono {m m':Mp} {N:Nat} {fr:Fr} {a:Act} (hm:m.le m') (h:gg m N fr a):gg m' N fr a:=⟨h.defers,h.size,fun t ht => (h.at_ t ht).mono hm⟩
theorem gg.put {m:Mp} {N:Nat} {fr:Fr} {a:Act} (h:gg m N fr a) (d:Option Nat) {v c:Value} (hv:bm m v c):gg m N (fr.put d v) (a.put d c):=by
 cases d with
 | none => exact h
 | some d =>
  refine ⟨h.defers,by simpa [Act.put] using h.size,fun t ht => ?_⟩
  have hs:=h.size
  simp only [Fr.put,Act.put]
  by_cases e:t = d
  · subst e
    rw [if_pos rfl]
    have:(a.tmps.setIfInBounds t c).getD t undef = c:=by simp [Array.getD,hs,ht]
    rw [this]
    exact hv
  · rw [if_neg e]
    have:(a.tmps.setIfInBounds d c).getD t undef = a.tmps.getD t undef:=by
     simp only [Array.getD_eq_getD_getElem?]
     rw [Array.getElem?_setIfInBounds_ne (Ne.symm e)]
    rw [this]
    exact h.at_ t ht
def ya:Value → Bool
 | .bool _ | .int _ _ | .string _ | .pointer none | .map none | .nilFunc | .nilIface => true
 | .slice none n k => n == 0 && k == 0
 | .func _ a b => a.size == 0 && b.size == 0
 | _ => false
def zbiq:Value → Bool
 | .agg cs | .tuple cs => (List.range cs.size).all fun i => ya (cs.getD i undef)
 | v => ya v
theorem zbmf {m:Mp} {v:Value} (h:ya v = true):bm m v v:=by
 cases v with
 | bool b => exact .bool b
 | int k n => exact .int k n
 | string s => exact .string s
 | pointer a => cases a with | none => exact .nilP | some a => simp [ya] at h
 | slice a n k => cases a with
  | none => simp [ya] at h; obtain ⟨rfl,rfl⟩:=h; exact .nilS
  | some a => simp [ya] at h
 | map r => cases r with | none => exact .nilM | some a => simp [ya] at h
 | nilFunc => exact .nilF
 | nilIface => exact .nilI
 | func fn a b =>
  simp [ya] at h
  exact .func fn a b a b rfl rfl (fun i hi => by simp [h.1] at hi) (fun i hi => by simp [h.2] at hi)
 | _ => simp [ya] at h
theorem zbwn {m:Mp} {v:Value} (h:zbiq v = true):bm m v v:=by
 cases v with
 | agg cs => simp [zbiq] at h; exact .agg _ _ rfl fun i hi => zbmf (by simpa [Array.getD,hi] using h i hi)
 | tuple cs => simp [zbiq] at h; exact .tuple _ _ rfl fun i hi => zbmf (by simpa [Array.getD,hi] using h i hi)
 | _ => exact zbmf h
def okO (N:Nat):Operand → Bool
 | .tmp t => decide (t < N)
 | .const v => zbiq v
 | .func _ => true
 | .global _ => false
def evO (fr:Fr):Operand → Value
 | .tmp t => fr t
 | .const v => v
 | .func f => .func (.func f) #[] #[]
 | .global _ => undef
theorem ax {m:Mp} {N:Nat} {fr:Fr} {a:Act} (h:gg m N fr a) {x:Operand} (hx:okO N x = true):bm m (evO fr x) (a.eval x):=by
 cases x with
 | tmp t => exact h.at_ t (by simpa [okO] using hx)
 | const v => exact zbwn hx
 | func f => exact .func _ _ _ _ _ rfl rfl (fun i hi => by simp at hi) (fun i hi => by simp at hi)
 | global g => simp [okO] at hx
inductive FK where
 | b | i | s
inductive NK where
 | p | s | m | f
inductive I where
 | mov (x:Operand)
 | pick (c a b:Operand)
 | box (t:TypeId) (n:Nat) (x:Operand)
 | load1 (x:Operand)
 | loadN (n:Nat) (x:Operand)
 | store (n:Nat) (a x:Operand)
 | nilchk (x:Operand)
 | bin (op:BinOp) (x y:Operand)
 | eqB (neg:Bool) (x y:Operand)
 | isNil (k:NK) (neg:Bool) (x:Operand)
 | un (op:UnOp) (x:Operand)
 | conv (k:IntKind) (x:Operand)
 | convS (x:Operand)
 | fieldAddr (off:Nat) (x:Operand)
 | field1 (off:Nat) (x:Operand)
 | fieldN (off n:Nat) (x:Operand)
 | indexPtr (len sz:Nat) (x i:Operand)
 | indexSl (sz:Nat) (x i:Operand)
 | indexStr (x i:Operand)
 | sliceStr (x:Operand) (lo hi:Option Operand)
 | sliceSl (sz:Nat) (x:Operand) (lo hi:Option Operand)
 | lenS (x:Operand)
 | lenL (x:Operand)
 | min (x y:Operand)
 | max (x y:Operand)
 | mkFunc (fn:Fn) (first captured:List Operand)
 | call (f:FuncId) (args:List Operand)
 | callv (x:Operand) (args:List Operand)
 | callW (f:FuncId) (args:List Operand)
 | callvW (x:Operand) (args:List Operand)
 | extract (x:Operand) (i:Nat)
 | build (zero:List Value) (parts:List (Nat × Nat × Operand))
 | buildSl (t:TypeId) (sz len:Nat) (zeros:List Value) (parts:List (Nat × Nat × Operand))
 | makeSl (t:TypeId) (bytes:Nat) (zero:List Value) (l c:Operand)
 | append (t:TypeId) (sz bytes:Nat) (s x:Operand)
 | appendS (t:TypeId) (s x:Operand)
 | toBytes (t:TypeId) (x:Operand)
 | toStr (x:Operand)
 | mkMap
 | indexAgg (len:Nat) (x i:Operand)
 | indexAggN (len sz:Nat) (x i:Operand)
 | eqF (neg:Bool) (ks:List FK) (x y:Operand)
 | mapGet (kt:TypeId) (x i:Operand)
 | mapSet (kt:TypeId) (x i v:Operand)
def df (op:BinOp) (k:IntKind) (x y:Int):Option Value :=
 match op with
 | .add => some (.int k (k.wrap (x + y)))
 | .sub => some (.int k (k.wrap (x - y)))
 | .mul => some (.int k (k.wrap (x * y)))
 | .quo => if y = 0 then none else some (.int k (k.wrap (x.tdiv y)))
 | .rem => if y = 0 then none else some (.int k (x.tmod y))
 | .and => some (.int k (k.wrap (BitVec.ofInt k.bits x &&& BitVec.ofInt k.bits y).toNat))
 | .or => some (.int k (k.wrap (BitVec.ofInt k.bits x ||| BitVec.ofInt k.bits y).toNat))
 | .xor => some (.int k (k.wrap (BitVec.ofInt k.bits x ^^^ BitVec.ofInt k.bits y).toNat))
 | .andNot => some (.int k (k.wrap (BitVec.ofInt k.bits x &&& ~~~(BitVec.ofInt k.bits y)).toNat))
 | .eql => some (.bool (x == y))
 | .neq => some (.bool (x != y))
 | .lss => some (.bool (decide (x < y)))
 | .leq => some (.bool (decide (x ≤ y)))
 | .gtr => some (.bool (decide (y < x)))
 | .geq => some (.bool (decide (y ≤ x)))
 | .shl | .shr => none
def zbfs (op:BinOp) (k:IntKind) (x y:Int):Option Value :=
 if y < 0 then none else
 match op with
 | .shl => some (.int k (k.wrap (x * 2 ^ (Nat.min y.toNat k.bits))))
 | .shr => some (.int k (x.fdiv (2 ^ (Nat.min y.toNat k.bits))))
 | _ => none
def zaqi (op:BinOp) (x y:ByteArray):Option Value :=
 match op with
 | .add => if ((x.size + y.size:Nat):Int) > IntKind.i64.max then none else some (.string (x ++ y))
 | .eql => some (.bool (x.toList == y.toList))
 | .neq => some (.bool (!(x.toList == y.toList)))
 | _ => none
def a6 (op:BinOp) (v w:Value):Option Value :=
 match v,w with
 | .int k x,.int k' y => match op with
  | .shl => zbfs .shl k x y
  | .shr => zbfs .shr k x y
  | op => if k = k' then df op k x y else none
 | .string x,.string y => zaqi op x y
 | _,_ => none
def r7 (k:NK) (v:Value):Option Bool :=
 match k,v with
 | .p,.pointer a => some a.isNone
 | .s,.slice a _ _ => some a.isNone
 | .m,.map r => some r.isNone
 | .f,.nilFunc => some true
 | .f,.func _ _ _ => some false
 | _,_ => none
def vun (op:UnOp) (v:Value):Option Value :=
 match op,v with
 | .neg,.int k n => some (.int k (k.wrap (0 - n)))
 | .xor,.int k n => some (.int k (k.wrap (BitVec.ofInt k.bits (if k.signed then -1 else k.max) ^^^ BitVec.ofInt k.bits n).toNat))
 | .not,.bool b => some (.bool !b)
 | _,_ => none
def zbh2 (P:Program) (f:FuncId):Bool :=
 match P.funcs[f]? with
 | some fn => fn.name != "runtime.NumGoroutine" && fn.body.isSome
 | none => false
def im (P:Program) (f:FuncId) (args:List Value) (σ:ah) (Post:Value → ah → Prop):Prop :=
 zbh2 P f = true ∧ ∀ B w0 m w (cargs:Array Value),Rep B w0 σ m w → cargs.size = args.length → (∀ i,i < args.length → bm m (args.getD i undef) (cargs.getD i undef)) →
  Calls P f cargs w fun e w' => ∃ v c m' σ',e = .returned c ∧ m.le m' ∧ bm m' v c ∧ Rep B w0 σ' m' w' ∧ Post v σ'
theorem im.mono {P:Program} {f:FuncId} {args:List Value} {σ:ah} {Post Post':Value → ah → Prop} (h:im P f args σ Post) (hp:∀ v σ',Post v σ' → Post' v σ'):im P f args σ Post' :=
 ⟨h.1,fun B w0 m w cargs hr hs hv => (h.2 B w0 m w cargs hr hs hv).mono fun e w' ⟨v,c,m',σ',h1,h2,h3,h4,h5⟩ => ⟨v,c,m',σ',h1,h2,h3,h4,hp _ _ h5⟩⟩
def q9 (n:Nat) (lo hi:Option Value):Option (Nat × Nat) :=
 match (match hi with
  | none => some n
  | some (.int _ h) => if 0 ≤ h ∧ h ≤ n then some h.toNat else none
  | some _ => none) with
 | none => none
 | some h => match lo with
  | none => some (0,h)
  | some (.int _ l) => if 0 ≤ l ∧ l ≤ h then some (l.toNat,h) else none
  | some _ => none
def a8 (v:Value) (K:Addr → Prop):Prop:=match v with | .pointer (some a) => K a | _ => False
def ao (v:Value) (K:IntKind → Int → Prop):Prop:=match v with | .int k n => K k n | _ => False
def pj (v:Value) (K:Bool → Prop):Prop:=match v with | .bool b => K b | _ => False
def b8 (v:Value) (K:ByteArray → Prop):Prop:=match v with | .string s => K s | _ => False
def kSl (v:Value) (K:Addr → Nat → Nat → Prop):Prop:=match v with | .slice (some a) n s => K a n s | _ => False
def zbid (v:Value) (K:Nat → Prop):Prop:=match v with | .slice _ n _ => K n | _ => False
def dd (v:Value) (K:Array Value → Prop):Prop:=match v with | .agg cs => K cs | _ => False
def zbm2 (v:Value) (K:Array Value → Prop):Prop:=match v with | .tuple cs => K cs | _ => False
def zbcg (v:Value) (K:FuncId → Array Value → Array Value → Prop):Prop:=match v with | .func (.func f) a b => K f a b | _ => False
def mq {α:Type} (o:Option α) (K:α → Prop):Prop:=match o with | some x => K x | none => False
def zbm3 (v:Value) (K:Prop):Prop:=match v with | .pointer (some _) => K | .func (.func _) _ _ => K | _ => False
def iw (cs:List Value) (off:Nat):List Value → List Value
 | [] => cs
 | v :: r => iw (cs.set off v) (off + 1) r
def dm (cs:List Value):List (Nat × Nat × Value) → Option (List Value)
 | [] => some cs
 | (off,size,v) :: r => if v.cells.size = size ∧ off + size ≤ cs.length then dm (iw cs off v.cells.toList) r else none
def bu (n:Nat) (zero:List Value):List Value:=(List.replicate n zero).flatten
def eu (v:Value) (Kn:Prop) (Ks:Addr → Nat → Nat → Prop):Prop:=match v with | .slice none _ _ => Kn | .slice (some a) n s => Ks a n s | _ => False
def ah.rwRow (σ:ah) (t:TypeId) (i:Nat):Option (List Value):=match σ.at i with | .cells t' cs .rw => if t' = t then some cs else none | _ => none
def ah.apRow (σ:ah) (t:TypeId) (i:Nat):Option (List Value):=match σ.at i with | .cells t' cs .app => if t' = t then some cs else none | _ => none
def di (s:ByteArray):List Value:=s.data.toList.map fun b => .int .u8 b.toNat
def ab:List Value → Option (List UInt8)
 | [] => some []
 | .int .u8 n :: r => (ab r).map (UInt8.ofNat n.toNat :: ·)
 | _ :: _ => none
def zbah (σ:ah) (t:TypeId) (sz bytes:Nat) (s:Value) (m:Nat) (news:List Value) (K:Value → ah → Prop):Prop :=
 eu s ((m * bytes ≤ 140737488355328 ∧ m ≤ maxLen) ∧ (K (.slice (some ⟨σ.next,0,none⟩) m sz) (σ.push (.cells t news .rw)) ∨ K (.slice (some ⟨σ.next,0,none⟩) m sz) (σ.push (.cells t news .app)))) fun a n s' =>
  a.off = 0 ∧ s' = sz ∧ ((n + m) * bytes ≤ 140737488355328 ∧ n + m ≤ maxLen) ∧
   ((mq (σ.rwRow t a.block) fun cs => n * sz ≤ cs.length ∧ K (.slice (some ⟨σ.next,0,none⟩) (n + m) sz) ((σ.set a.block .dead).push (.cells t (cs.take (n * sz) ++ news) .rw))) ∨
    (mq (σ.apRow t a.block) fun cs => n * sz = cs.length ∧ K (.slice (some ⟨σ.next,0,none⟩) (n + m) sz) ((σ.set a.block (.cells t cs .ro)).push (.cells t (cs ++ news) .app))))
def zbhr (k:FK) (v w:Value):Option Bool :=
 match k,v,w with
 | .b,.bool a,.bool b => some (a == b)
 | .i,.int j a,.int k b => if j = k then some (a == b) else none
 | .s,.string a,.string b => some (a == b)
 | _,_,_ => none
def sw:List FK → List Value → List Value → Option Bool
 | [],[],[] => some true
 | k :: ks,v :: vs,w :: ws => match zbhr k v w,sw ks vs ws with
  | some a,some b => some (a && b)
  | _,_ => none
 | _,_,_ => none
def zbg5:Value → Bool
 | .bool _ | .int _ _ | .string _ => true
 | _ => false
def zbg6:Value → Bool
 | .agg cs => cs.toList.all zbg5
 | v => zbg5 v
def zbil (P:Program) (kt:TypeId) (σ:ah) (v k:Value) (es:List (Value × Value)):Prop :=
 ∃ id,v = .map (some id) ∧ σ.at id = .map es ∧ Maps.Keyed P kt ∧ zbg6 k = true ∧ (∃ l,keyOf P kt k = some l) ∧ ∀ e ∈ es,zbg6 e.1 = true ∧ ∃ l,keyOf P kt e.1 = some l
def evI (P:Program) (i:I) (K:Value → ah → Prop) (fr:Fr) (σ:ah):Prop :=
 match i with
 | .mov x => K (evO fr x) σ
 | .pick c a b => pj (evO fr c) fun t => K (bif t then evO fr a else evO fr b) σ
 | .box t n x => (∀ j,j < (evO fr x).cells.size → scalar ((evO fr x).cells.getD j undef) = true) ∧ K (.pointer (some ⟨σ.next,0,none⟩)) (σ.push (.cells t (evO fr x).cells.toList .rw))
 | .load1 x => a8 (evO fr x) fun a => mq (σ.load a.block a.off) fun v => K v σ
 | .loadN n x => a8 (evO fr x) fun a => mq (σ.row a.block a.off n) fun vs => K (.agg vs.toArray) σ
 | .store n a x => a8 (evO fr a) fun p => (evO fr x).cells.size = n ∧ mq (σ.store p.block p.off (evO fr x).cells.toList) fun σ' => K undef σ'
 | .nilchk x => zbm3 (evO fr x) (K (evO fr x) σ)
 | .bin op x y => mq (a6 op (evO fr x) (evO fr y)) fun v => K v σ
 | .eqB neg x y => pj (evO fr x) fun p => pj (evO fr y) fun q => K (.bool (bif neg then p != q else p == q)) σ
 | .isNil k neg x => mq (r7 k (evO fr x)) fun b => K (.bool (bif neg then !b else b)) σ
 | .un op x => mq (vun op (evO fr x)) fun v => K v σ
 | .conv k x => ao (evO fr x) fun _ n => K (.int k (k.wrap n)) σ
 | .convS x => b8 (evO fr x) fun _ => K (evO fr x) σ
 | .fieldAddr off x => a8 (evO fr x) fun a => K (.pointer (some ⟨a.block,a.off + off,none⟩)) σ
 | .field1 off x => dd (evO fr x) fun cs => off < cs.size ∧ K (cs.getD off undef) σ
 | .fieldN off n x => dd (evO fr x) fun cs => off + n ≤ cs.size ∧ K (.agg (cs.extract off (off + n))) σ
 | .indexPtr len sz x i => a8 (evO fr x) fun a => ao (evO fr i) fun _ n => (0 ≤ n ∧ n < len) ∧ K (.pointer (some ⟨a.block,a.off + n.toNat * sz,none⟩)) σ
 | .indexSl sz x i => kSl (evO fr x) fun a len _ => ao (evO fr i) fun _ n => (0 ≤ n ∧ n < len) ∧ K (.pointer (some ⟨a.block,a.off + n.toNat * sz,none⟩)) σ
 | .indexStr x i => b8 (evO fr x) fun s => ao (evO fr i) fun _ n => (0 ≤ n ∧ n < s.size) ∧ K (.int .u8 (s.data.getD n.toNat 0).toNat) σ
 | .sliceStr x lo hi => b8 (evO fr x) fun s => mq (q9 s.size (lo.map (evO fr)) (hi.map (evO fr))) fun lh => K (.string (s.extract lh.1 lh.2)) σ
 | .sliceSl sz x lo hi => kSl (evO fr x) fun a len s => s = sz ∧ mq (q9 len (lo.map (evO fr)) (hi.map (evO fr))) fun lh => K (.slice (some ⟨a.block,a.off + lh.1 * sz,none⟩) (lh.2 - lh.1) sz) σ
 | .lenS x => b8 (evO fr x) fun s => K (.int .i64 s.size) σ
 | .lenL x => zbid (evO fr x) fun n => K (.int .i64 n) σ
 | .min x y => ao (evO fr x) fun k a => ao (evO fr y) fun _ b => K (.int k (if b < a then b else a)) σ
 | .max x y => ao (evO fr x) fun k a => ao (evO fr y) fun _ b => K (.int k (if a < b then b else a)) σ
 | .mkFunc fn first captured => K (.func fn (first.map (evO fr)).toArray (captured.map (evO fr)).toArray) σ
 | .call f args => im P f (args.map (evO fr)) σ K
 | .callv x args => zbcg (evO fr x) fun f first captured => im P f (first.toList ++ args.map (evO fr) ++ captured.toList) σ K
 | .callW f args => im P f (args.map (evO fr)) σ K
 | .callvW x args => zbcg (evO fr x) fun f first captured => im P f (first.toList ++ args.map (evO fr) ++ captured.toList) σ K
 | .extract x i => zbm2 (evO fr x) fun vs => i < vs.size ∧ K (vs.getD i undef) σ
 | .build zero parts => mq (dm zero (parts.map fun p => (p.1,p.2.1,evO fr p.2.2))) fun cs => K (.agg cs.toArray) σ
 | .buildSl t sz len zeros parts => mq (dm zeros (parts.map fun p => (p.1,p.2.1,evO fr p.2.2))) fun cs => cs.all scalar = true ∧ ∃ md,K (.slice (some ⟨σ.next,0,none⟩) len sz) (σ.push (.cells t cs md))
 | .makeSl t bytes zero l c => ao (evO fr l) fun _ n => ao (evO fr c) fun _ k => (0 ≤ n ∧ n ≤ k ∧ k * bytes ≤ 140737488355328 ∧ k ≤ 9223372036854775807) ∧
  ∃ md,K (.slice (some ⟨σ.next,0,none⟩) n.toNat zero.length) (σ.push (.cells t (bu n.toNat zero) md))
 | .append t sz bytes s x => eu (evO fr x) (eu (evO fr s) (K (evO fr s) σ) fun _ _ _ => K (evO fr s) σ) fun a m sx =>
  (m = 0 → eu (evO fr s) (K (evO fr s) σ) fun _ _ _ => K (evO fr s) σ) ∧ (m ≠ 0 → sx = sz ∧ mq (σ.row a.block a.off (m * sz)) fun news => zbah σ t sz bytes (evO fr s) m news K)
 | .appendS t s x => b8 (evO fr x) fun str => (str.size = 0 → eu (evO fr s) (K (evO fr s) σ) fun _ _ _ => K (evO fr s) σ) ∧ (str.size ≠ 0 → zbah σ t 1 1 (evO fr s) str.size (di str) K)
 | .toBytes t x => b8 (evO fr x) fun s => ∃ md,K (.slice (some ⟨σ.next,0,none⟩) s.size 1) (σ.push (.cells t (di s) md))
 | .toStr x => eu (evO fr x) (K (.string ⟨#[]⟩) σ) fun a n s => (n = 0 → K (.string ⟨#[]⟩) σ) ∧ (n ≠ 0 → mq ((σ.row a.block a.off n).bind ab) fun bs => K (.string ⟨bs.toArray⟩) σ)
 | .mkMap => K (.map (some σ.next)) (σ.push (.map []))
 | .indexAgg len x i => dd (evO fr x) fun cs => ao (evO fr i) fun _ n => (0 ≤ n ∧ n < len ∧ len ≤ cs.size) ∧ K (cs.getD n.toNat undef) σ
 | .indexAggN len sz x i => dd (evO fr x) fun cs => ao (evO fr i) fun _ n => (0 ≤ n ∧ n < len ∧ len * sz ≤ cs.size) ∧ K (.agg (cs.extract (n.toNat * sz) (n.toNat * sz + sz))) σ
 | .eqF neg ks x y => dd (evO fr x) fun p => dd (evO fr y) fun q => mq (sw ks p.toList q.toList) fun b => K (.bool (bif neg then !b else b)) σ
 | .mapGet kt x i => ∃ es,zbil P kt σ (evO fr x) (evO fr i) es ∧ (∀ e ∈ es,e.1 = evO fr i → K e.2 σ) ∧ ((∀ e ∈ es,e.1 ≠ evO fr i) → K (.bool false) σ)
 | .mapSet kt x i v => ∃ es id,zbil P kt σ (evO fr x) (evO fr i) es ∧ evO fr x = .map (some id) ∧ (∀ e ∈ es,e.1 ≠ evO fr i) ∧ K undef (σ.set id (.map (es ++ [(evO fr i,evO fr v)])))
def rz (P:Program) (t:TypeId):Option Bool :=
 match P.underlying t with
 | some (.struct _) | some (.array _ _) => some true
 | some _ => some false
 | none => none
def szT (P:Program) (t:TypeId):Option Nat:=(P.info? t).map (·.size)
def zbcc (N:Nat) (xs:List Operand):Bool:=xs.all (okO N)
def zbek (N:Nat):Option Operand → Bool
 | none => true
 | some x => okO N x
def zbij (P:Program) (t:TypeId):Option FK:=match P.underlying t with | some .bool => some .b | some (.int _) => some .i | some .string => some .s | _ => none
def zbii (P:Program):List Field → Nat → Option (List FK)
 | [],_ => some []
 | f :: r,off => if f.name ≠ "_" ∧ f.offset = off then (match zbij P f.type,zbii P r (off + 1) with | some k,some l => some (k :: l) | _,_ => none) else none
def zbhs (P:Program):Nat → TypeId → Option (List FK)
 | 0,_ => none
 | d + 1,t =>
  match P.underlying t with
  | some .bool => some [.b]
  | some (.int _) => some [.i]
  | some .string => some [.s]
  | some (.struct fs) => if P.stoodInHeld t then none else zbii P fs.toList 0
  | _ => none
def yb (l:List Value):Bool:=l.all ya
def dt (P:Program) (t:TypeId):Option Value:=(P.info? t).bind (·.zero)
def zbm1 (N:Nat) (ps:List (Nat × Nat × Operand)):Bool:=ps.all fun p => okO N p.2.2
def zbmu (P:Program) (fs:Array Field):List (Nat × Operand) → Option (List (Nat × Nat × Operand))
 | [] => some []
 | (i,x) :: r => match fs[i]? with
  | some f => match szT P f.type,zbmu P fs r with
   | some n,some l => some ((f.offset,n,x) :: l)
   | _,_ => none
  | none => none
def ff (P:Program) (N:Nat) (o:Oper):Option I :=
 match o.op with
 | .move x | .assign x => if okO N x then some (.mov x) else none
 | .pick c a b => if okO N c && okO N a && okO N b then some (.pick c a b) else none
 | .alloc t => match P.info? t with
  | some i => match i.zero with
   | some z => if zbiq z then some (.box t i.size (.const z)) else none
   | none => none
  | none => none
 | .box t x => match szT P t with
  | some n => if okO N x then some (.box t n x) else none
  | none => none
 | .load t x => match rz P t,szT P t with
  | some true,some n => if okO N x then some (.loadN n x) else none
  | some false,some _ => if okO N x then some (.load1 x) else none
  | _,_ => none
 | .store t a x => match szT P t with
  | some n => if okO N a && okO N x then some (.store n a x) else none
  | none => none
 | .nilCheck x => if okO N x then some (.nilchk x) else none
 | .binOp op t x y _ => if okO N x && okO N y then
  match P.underlying t with
  | some (.int _) | some .string => some (.bin op x y)
  | some .bool => match op with
   | .eql => some (.eqB false x y)
   | .neq => some (.eqB true x y)
   | _ => none
  | some (.pointer _) => match op,y with
   | .eql,.const (.pointer none) => some (.isNil .p false x)
   | .neq,.const (.pointer none) => some (.isNil .p true x)
   | _,_ => none
  | some (.slice _) => match op,y with
   | .eql,.const (.slice none 0 0) => some (.isNil .s false x)
   | .neq,.const (.slice none 0 0) => some (.isNil .s true x)
   | _,_ => none
  | some (.map _ _) => match op,y with
   | .eql,.const (.map none) => some (.isNil .m false x)
   | .neq,.const (.map none) => some (.isNil .m true x)
   | _,_ => none
  | some (.func _ _ _) => match op,y with
   | .eql,.const .nilFunc => some (.isNil .f false x)
   | .neq,.const .nilFunc => some (.isNil .f true x)
   | _,_ => none
  | some (.struct fs) => match zbhs P 4 t with
   | some ks => if P.eqGuardType P.depth t then none else match op with
    | .eql => some (.eqF false ks x y)
    | .neq => some (.eqF true ks x y)
    | _ => none
   | none => none
  | some (.array n e) => match zbhs P 4 t with
   | some ks => if P.eqGuardType P.depth t then none else match op with
    | .eql => some (.eqF false ks x y)
    | .neq => some (.eqF true ks x y)
    | _ => none
   | none => none
  | _ => none
  else none
 | .unOp op _ x => if okO N x then some (.un op x) else none
 | .convert s t x => if okO N x then
  match P.underlying s,P.underlying t with
  | some (.int _),some (.int k) => some (.conv k x)
  | some .string,some .string => some (.convS x)
  | some .string,some (.slice e) => match P.underlying e with
   | some (.int .u8) => some (.toBytes e x)
   | _ => none
  | some (.slice e),some .string => match P.underlying e with
   | some (.int .u8) => some (.toStr x)
   | _ => none
  | _,_ => none
  else none
 | .fieldAddr t x f => if okO N x then
  match P.underlying t with
  | some (.struct fields) => match fields[f]? with
   | some fd => match szT P fd.type with
    | some n => if n = 0 then none else some (.fieldAddr fd.offset x)
    | none => none
   | none => none
  | _ => none
  else none
 | .field t x f => if okO N x then
  match P.underlying t with
  | some (.struct fields) => match fields[f]? with
   | some fd => match rz P fd.type,szT P fd.type with
    | some true,some n => some (.fieldN fd.offset n x)
    | some false,some _ => some (.field1 fd.offset x)
    | _,_ => none
   | none => none
  | _ => none
  else none
 | .indexAddr t x i => if okO N x && okO N i then
  match P.underlying t with
  | some (.array len e) => match szT P e with
   | some n => some (.indexPtr len n x i)
   | none => none
  | some (.slice e) => match szT P e with
   | some n => some (.indexSl n x i)
   | none => none
  | _ => none
  else none
 | .index t x i => if okO N x && okO N i then
  match P.underlying t with
  | some .string => some (.indexStr x i)
  | some (.array len e) => match rz P e,szT P e with
   | some false,some 1 => some (.indexAgg len x i)
   | some true,some n => some (.indexAggN len n x i)
   | _,_ => none
  | _ => none
  else none
 | .slice t x lo hi none => if okO N x && zbek N lo && zbek N hi then
  match P.underlying t with
  | some .string => some (.sliceStr x lo hi)
  | some (.slice e) => match szT P e with
   | some n => some (.sliceSl n x lo hi)
   | none => none
  | _ => none
  else none
 | .build t parts => match P.underlying t,dt P t with
  | some (.struct fs),some z => match zbmu P fs parts.toList with
   | some ps => if zbm1 N ps && yb z.cells.toList && fs.toList.all (fun f => (szT P f.type).isSome) then some (.build z.cells.toList ps) else none
   | none => none
  | some (.array _ e),some z => match szT P e with
   | some n => let ps:=parts.toList.map fun p => (p.1 * n,n,p.2)
    if zbm1 N ps && yb z.cells.toList then some (.build z.cells.toList ps) else none
   | none => none
  | _,_ => none
 | .buildSlice t len parts => match P.underlying t with
  | some (.slice e) => match szT P e,dt P e with
   | some n,some z => let ps:=parts.toList.map fun p => (p.1 * n,n,p.2)
    if zbm1 N ps && yb z.cells.toList && (z.cells.size == n) && decide (len * n ≤ 16777216) && (n != 0) then some (.buildSl e n len (bu len z.cells.toList) ps) else none
   | _,_ => none
  | _ => none
 | .makeSlice t l c => if okO N l && okO N c then match P.underlying t with
  | some (.slice e) => match P.info? e,dt P e with
   | some i,some z => if yb z.cells.toList && (z.cells.size == i.size) && (i.size != 0) && z.cells.toList.all scalar then some (.makeSl e i.bytes z.cells.toList l c) else none
   | _,_ => none
  | _ => none
  else none
 | .makeMap t none => some .mkMap
 | .lookup t x i false => if okO N x && okO N i then
  match P.underlying t with
  | some (.map kt et) => match dt P et with
   | some (.bool false) => some (.mapGet kt x i)
   | _ => none
  | _ => none
  else none
 | .mapUpdate t x i v => if okO N x && okO N i && okO N v then
  match P.underlying t with
  | some (.map kt _) => some (.mapSet kt x i v)
  | _ => none
  else none
 | .makeFunc fn first captured => if zbcc N first.toList && zbcc N captured.toList then some (.mkFunc fn first.toList captured.toList) else none
 | .extract x i => if okO N x then some (.extract x i) else none
 | .call c => if zbcc N c.args.toList then
  match c.callee with
  | .value (.func f) => if zbh2 P f then some (.call f c.args.toList) else none
  | .value x => if okO N x then some (.callv x c.args.toList) else none
  | .builtin .len => match c.args.toList,c.argTypes[0]? with
   | [x],some t => match P.underlying t with
    | some .string => some (.lenS x)
    | some (.slice _) => some (.lenL x)
    | _ => none
   | _,_ => none
  | .builtin .append => match c.args.toList,c.argTypes.toList with
   | [s,x],[t,u] => match P.underlying t,P.underlying u with
    | some (.slice e),some (.slice _) => match P.info? e,dt P e with
     | some i,some z => if (t == u) && (z.cells.size == i.size) && (i.size != 0) then some (.append e i.size i.bytes s x) else none
     | _,_ => none
    | some (.slice e),some .string => match P.info? e,dt P e with
     | some i,some z => if (z.cells.size == 1) && (i.size == 1) && (i.bytes == 1) then some (.appendS e s x) else none
     | _,_ => none
    | _,_ => none
   | _,_ => none
  | .builtin .min => match c.args.toList with
   | [x,y] => some (.min x y)
   | _ => none
  | .builtin .max => match c.args.toList with
   | [x,y] => some (.max x y)
   | _ => none
  | _ => none
  else none
 | _ => none
end Go.Proofs.Ytgkkienmocpnbaa.Sh
