/- The shadow's memory: reading, storing, new zarh, each as the model does it. -/
import Derived.Test.YtdcfoaafkppojaaSh1
import Derived.Laws.AppendOwn
import Derived.Laws.CopyRow
set_option linter.unusedVariables false
set_option linter.unusedSimpArgs false
namespace Go.Proofs.Ytdcfoaafkppojaa.Sh
open Go Go.RowKit
theorem zae8 (v : Value) : v.oneCell' = scalar v := by cases v <;> rfl
theorem j8 (b o n : Nat) : (⟨b,o,none⟩ : Addr).add n = ⟨b,o + n,none⟩ := by unfold Addr.add; split <;> simp_all
section mem
variable {B : Nat} {w0 : World} {σ : ak} {m : Mp} {w : World}
theorem Rep.cell (h : Rep B w0 σ m w) {i o : Nat} (hi : i < σ.next) {v : Value} (hl : σ.load i o = some v) :
    ∃ c,w.cell? ⟨(m.l i).b,(m.l i).base + o,none⟩ = some c ∧ bu m v c ∧ scalar v = true := by
  unfold ak.load at hl
  rw [ak.at_lt hi] at hl
  have hb := h.blk i hi
  cases hq : σ.blk i with
  | dead => rw [hq] at hl; cases hl
  | map es => rw [hq] at hl; cases hl
  | cells t cs rw_ =>
    rw [hq] at hl hb
    obtain ⟨c,t',fz,h1,h2,h3⟩ := hb
    obtain ⟨ho,hv⟩ := List.getElem?_eq_some_iff.1 hl
    obtain ⟨h4,h5,h6⟩ := h2 o ho
    have e1 : cs.getD o undef = v := by rw [← hv]; simp [List.getD,List.getElem?_eq_getElem ho]
    rw [e1] at h5 h6
    refine ⟨c.getD ((m.l i).base + o) undef,?_,h5,h6⟩
    simp [World.cell?,h1,Array.getD,h4]
def ak.row (σ : ak) (i o n : Nat) : Option (List Value) :=
  match σ.at i with
  | .cells _ cs _ => if o + n ≤ cs.length then some ((cs.drop o).take n) else none
  | _ => none
theorem ak.row_load {σ : ak} {i o n : Nat} {vs : List Value} (h : σ.row i o n = some vs) : vs.length = n ∧ ∀ j,j < n → σ.load i (o + j) = some (vs.getD j undef) := by
  unfold ak.row at h
  cases hq : σ.at i with
  | dead => rw [hq] at h; cases h
  | map es => rw [hq] at h; cases h
  | cells t cs rw_ =>
    rw [hq] at h
    simp only at h
    split at h
    · rename_i hn
      injection h with h
      subst h
      refine ⟨by simp; omega,fun j hj => ?_⟩
      simp only [ak.load,hq]
      have hlt : o + j < cs.length := by omega
      simp [List.getD,List.getElem?_take,hj,List.getElem?_drop,List.getElem?_eq_getElem hlt]
    · cases h
theorem Rep.row (P : Program) (h : Rep B w0 σ m w) {i o n : Nat} (hi : i < σ.next) {vs : List Value} (hl : σ.row i o n = some vs) :
    ∃ cs : List Value,cs.length = vs.length ∧ (loadCells ⟨(m.l i).b,(m.l i).base + o,none⟩ n).run P w = .ok cs.toArray w ∧ (∀ j,j < vs.length → bu m (vs.getD j undef) (cs.getD j undef)) ∧
      (∀ j,j < vs.length → scalar (vs.getD j undef) = true) ∧ (∀ j,j < vs.length → w.cell? ⟨(m.l i).b,(m.l i).base + o + j,none⟩ = some (cs.getD j undef)) := by
  obtain ⟨hn,hj⟩ := ak.row_load hl
  have hex : ∀ j,j < n → ∃ c,w.cell? ⟨(m.l i).b,(m.l i).base + (o + j),none⟩ = some c ∧ bu m (vs.getD j undef) c ∧ scalar (vs.getD j undef) = true :=
    fun j hjn => h.cell hi (hj j hjn)
  let f : Nat → Value := fun j => (w.cell? ⟨(m.l i).b,(m.l i).base + (o + j),none⟩).getD undef
  have hf : ∀ j,j < n → w.cell? ((⟨(m.l i).b,(m.l i).base + o,none⟩ : Addr).add j) = some (f j) := fun j hjn => by
    obtain ⟨c,hc,_⟩ := hex j hjn
    rw [j8,Nat.add_assoc]
    simp [f,hc]
  have hg : ∀ j,j < n → ((List.range n).map f).getD j undef = f j := fun j hjn => by simp [List.getD,hjn]
  refine ⟨(List.range n).map f,by simp [hn],run_loadCells w _ n f hf,fun j hjn => ?_,fun j hjn => ?_,fun j hjn => ?_⟩
  · obtain ⟨c,hc,hv,_⟩ := hex j (by omega)
    rw [hg j (by omega)]
    simpa [f,hc] using hv
  · exact (hex j (by omega)).choose_spec.2.2
  · rw [hg j (by omega)]
    have := hf j (by omega)
    rw [j8] at this
    exact this
theorem ak.le.row {σ σ' : ak} (h : σ.le σ') {i o n : Nat} {vs : List Value} (hl : σ.row i o n = some vs) : σ'.row i o n = some vs := by
  have hi : i < σ.next := by
    refine ak.lt_of_at ?_
    unfold ak.row at hl
    cases hq : σ.at i <;> rw [hq] at hl <;> first | rfl | cases hl
  unfold ak.row at *
  rw [h.at_ hi]
  exact hl
def ak.store1 (σ : ak) (i o : Nat) (v : Value) : Option ak :=
  match σ.at i with
  | .cells t cs .rw => if o < cs.length ∧ scalar v = true then some (σ.set i (.cells t (cs.set o v) .rw)) else none
  | _ => none
theorem yr {w : World} {b o : Nat} {c : Array Value} {t : TypeId} {fz : Nat × Nat} (h : w.heap[b]? = some (.cells c t fz)) (x : Value) :
    (w.setCell ⟨b,o,none⟩ x).heap[b]? = some (.cells (c.setIfInBounds o x) t fz) := by
  simp [World.setCell,Array.getElem?_modify,h]
theorem Rep.store1 (P : Program) (h : Rep B w0 σ m w) {i o : Nat} (hi : i < σ.next) {v c : Value} {σ' : ak} (hs : σ.store1 i o v = some σ') (hv : bu m v c) :
    (store ⟨(m.l i).b,(m.l i).base + o,none⟩ c).run P w = .ok () (w.setCell ⟨(m.l i).b,(m.l i).base + o,none⟩ c) ∧
      Rep B w0 σ' m (w.setCell ⟨(m.l i).b,(m.l i).base + o,none⟩ c) := by
  unfold ak.store1 at hs
  rw [ak.at_lt hi] at hs
  have hb := h.blk i hi
  cases hq : σ.blk i with
  | dead => rw [hq] at hs; cases hs
  | map es => rw [hq] at hs; cases hs
  | cells t cs rw_ =>
    cases rw_ with
    | ro => rw [hq] at hs; cases hs
    | app => rw [hq] at hs; cases hs
    | rw =>
      rw [hq] at hs
      simp only at hs
      split at hs
      · rename_i ho
        injection hs with hs
        subst hs
        obtain ⟨ho,hsc⟩ := ho
        rw [hq] at hb
        obtain ⟨cc,t',fz,h1,h2,h3⟩ := hb
        obtain ⟨h4,h5,h6,h7,h8⟩ := h3 (by simp)
        obtain ⟨g1,g2,g3⟩ := h2 o ho
        have hcell : w.cell? ⟨(m.l i).b,(m.l i).base + o,none⟩ = some (cc.getD ((m.l i).base + o) undef) := by
          simp [World.cell?,h1,Array.getD,g1]
        have hfz : w.frozen? ⟨(m.l i).b,(m.l i).base + o,none⟩ = false := by
          have := h8 _ g1
          simp only [World.frozen?,h1]
          simpa using this
        refine ⟨?_,?_⟩
        · rw [run_store P w _ c _ (by rw [zae8,hv.scalar]; exact hsc),hcell]
          simp [hfz]
        · refine ⟨h.next,h.below.setCell h4 c,h.base,fun j hj => ?_,fun a b ha hb' hab hr hl => ?_⟩
          · by_cases hji : j = i
            · subst hji
              simp only [ak.set,if_true]
              refine ⟨_,t',fz,yr h1 c,fun q hq' => ?_,fun _ => ⟨h4,h5,h6,by simpa using h7,fun q hq' => h8 q (by simpa using hq')⟩⟩
              have hq2 : q < cs.length := by simpa using hq'
              obtain ⟨k1,k2,k3⟩ := h2 q hq2
              refine ⟨by simpa using k1,?_,?_⟩
              · by_cases hqo : q = o
                · subst hqo
                  have e1 : (cs.set q v).getD q undef = v := by simp [List.getD,hq2]
                  have e2 : (cc.setIfInBounds ((m.l j).base + q) c).getD ((m.l j).base + q) undef = c := by simp [Array.getD,k1]
                  rw [e1,e2]
                  exact hv
                · have e1 : (cs.set o v).getD q undef = cs.getD q undef := by simp [List.getD,List.getElem?_set,Ne.symm hqo]
                  have e2 : (cc.setIfInBounds ((m.l j).base + o) c).getD ((m.l j).base + q) undef = cc.getD ((m.l j).base + q) undef := by
                    simp only [Array.getD_eq_getD_getElem?]
                    rw [Array.getElem?_setIfInBounds_ne (by omega)]
                  rw [e1,e2]
                  exact k2
              · by_cases hqo : q = o
                · subst hqo
                  simpa [List.getD,hq2] using hsc
                · have e1 : (cs.set o v).getD q undef = cs.getD q undef := by simp [List.getD,List.getElem?_set,Ne.symm hqo]
                  rw [e1]; exact k3
            · simp only [ak.set,if_neg hji]
              have hbj := h.blk j hj
              cases hl : (σ.blk j).live with
              | false => cases hqj : σ.blk j <;> simp_all [Blk.live,we]
              | true =>
                refine hbj.world ?_
                rw [Below.heap_setCell]
                have := h.apart_rw hi hj (Ne.symm hji) (by rw [hq]; rfl) hl
                exact fun e => this e.symm
          · have q := h.apart a b ha hb' hab (by
              by_cases hai : a = i
              · subst hai; rw [hq]; rfl
              · simpa [ak.set,hai] using hr) (by
              by_cases hbi : b = i
              · subst hbi; rw [hq]; rfl
              · simpa [ak.set,hbi] using hl)
            refine q.imp id fun hs => ?_
            obtain ⟨t1,c1,t2,c2,e1,e2,_⟩ := sb hs
            have hai : a ≠ i := by rintro rfl; rw [hq] at e1; cases e1
            have hbi : b ≠ i := by rintro rfl; rw [hq] at e2; cases e2
            simpa [ak.set,hai,hbi] using hs
      · cases hs
def ak.store (σ : ak) (i o : Nat) : List Value → Option ak
  | [] => some σ
  | v :: r => (σ.store1 i o v).bind fun σ' => σ'.store i (o + 1) r
theorem ak.store1_next {σ σ' : ak} {i o : Nat} {v : Value} (h : σ.store1 i o v = some σ') : σ'.next = σ.next := by
  unfold ak.store1 at h
  split at h
  · split at h
    · injection h with h; subst h; rfl
    · cases h
  · cases h
theorem Rep.store (P : Program) {i : Nat} (a b : Nat) (ha : (m.l i).b = a) (hb : (m.l i).base = b) : ∀ (vs cs : List Value) (σ : ak) (w : World) (o k : Nat),Rep B w0 σ m w → i < σ.next → ∀ {σ' : ak},σ.store i (o + k) vs = some σ' → cs.length = vs.length →
    (∀ j,j < vs.length → bu m (vs.getD j undef) (cs.getD j undef)) →
    ∃ w',(storeCells ⟨a,b + o,none⟩ cs k).run P w = .ok () w' ∧ Rep B w0 σ' m w' := by
  intro vs
  induction vs with
  | nil =>
    intro cs σ w o k h hi σ' hs hl hv
    cases cs with
    | nil =>
      injection hs with hs
      subst hs
      exact ⟨w,rfl,h⟩
    | cons c r => simp at hl
  | cons v r ih =>
    intro cs σ w o k h hi σ' hs hl hv
    cases cs with
    | nil => simp at hl
    | cons c cr =>
      simp only [ak.store] at hs
      cases hs1 : σ.store1 i (o + k) v with
      | none => rw [hs1] at hs; cases hs
      | some σ1 =>
        rw [hs1] at hs
        simp only [Option.bind_some] at hs
        have hv0 : bu m v c := by simpa [List.getD] using hv 0 (by simp)
        obtain ⟨r1,r2⟩ := h.store1 P hi hs1 hv0
        rw [ha,hb] at r1 r2
        have hvr : ∀ j,j < r.length → bu m (r.getD j undef) (cr.getD j undef) := fun j hj => by simpa [List.getD] using hv (j + 1) (by simpa using hj)
        obtain ⟨w',e1,e2⟩ := ih cr σ1 _ o (k + 1) r2 (by rw [ak.store1_next hs1]; exact hi) (by rw [← Nat.add_assoc]; exact hs) (by simpa using hl) hvr
        refine ⟨w',?_,e2⟩
        simp only [storeCells,Sem.run_bind]
        rw [j8,Nat.add_assoc,r1]
        simp only [Result.andThen_ok]
        exact e1
def Mp.push (m : Mp) (l : Loc) : Mp := ⟨m.n + 1,fun i => if i = m.n then l else m.l i⟩
theorem Mp.le_push (m : Mp) (l : Loc) : m.le (m.push l) := ⟨Nat.le_succ _,fun i hi => by simp [Mp.push]; omega⟩
theorem Rep.pushArr (h : Rep B w0 σ m w) (t : TypeId) (cs : List Value) (arr : Array Value) (hle : cs.length ≤ arr.size)
    (hv : ∀ j,j < cs.length → bu m (cs.getD j undef) (arr.getD j undef)) (h1 : ∀ j,j < cs.length → scalar (cs.getD j undef) = true) (fz : Nat × Nat) (hfz : ∀ o,o < arr.size → ¬ (fz.1 ≤ o ∧ o < fz.2))
    {w' : World} (hw : Below w.heap.size w w') (hn : w'.heap[w.heap.size]? = some (.cells arr t fz)) (md : Md := .rw) :
    Rep B w0 (σ.push (.cells t cs md)) (m.push ⟨w.heap.size,0,arr.size⟩) w' := by
  have hB : B ≤ w.heap.size := Nat.le_trans h.base h.below.size
  have h' := h.later hw
  have key : ∀ k,k < σ.next → ((σ.push (.cells t cs md)).blk k) = σ.blk k := fun k hk => by simp [ak.push]; omega
  have kem : ∀ k,k < σ.next → (m.push ⟨w.heap.size,0,arr.size⟩).l k = m.l k := fun k hk => by simp [Mp.push,h.next]; omega
  have knw : (m.push ⟨w.heap.size,0,arr.size⟩).l σ.next = ⟨w.heap.size,0,arr.size⟩ := by simp [Mp.push,h.next]
  refine ⟨by simp [Mp.push,ak.push,h.next],h'.below,h.base,fun i hi => ?_,fun i j hi hj hij hr hl => ?_⟩
  · have hi2 : i < σ.next + 1 := hi
    by_cases hin : i = σ.next
    · subst hin
      rw [knw]
      have e1 : (σ.push (.cells t cs md)).blk σ.next = .cells t cs md := by simp [ak.push]
      rw [e1]
      refine ⟨arr,t,fz,hn,fun j hj => ⟨by simp; omega,?_,h1 j hj⟩,fun _ => ⟨hB,rfl,rfl,rfl,hfz⟩⟩
      have := (hv j hj).mono (m.le_push ⟨w.heap.size,0,arr.size⟩)
      simpa using this
    · have hi' : i < σ.next := by omega
      rw [kem i hi',key i hi']
      exact (h'.blk i hi').mono (m.le_push _)
  · have hi2 : i < σ.next + 1 := hi
    have hj2 : j < σ.next + 1 := hj
    by_cases hin : i = σ.next
    · have hj' : j < σ.next := by omega
      rw [hin,knw,kem j hj']
      rw [key j hj'] at hl
      have := (h.blk j hj').lt hl
      simp only
      left
      omega
    · have hi' : i < σ.next := by omega
      rw [key i hi'] at hr
      by_cases hjn : j = σ.next
      · rw [hjn,knw,kem i hi']
        have := (h.blk i hi').lt (Blk.live_of_own hr)
        simp only
        left
        omega
      · have hj' : j < σ.next := by omega
        rw [key j hj'] at hl
        rw [kem i hi',kem j hj',key i hi',key j hj']
        exact h.apart i j hi' hj' hij hr hl
theorem Rep.pushCells (h : Rep B w0 σ m w) (t : TypeId) (cs cc : List Value) (rest : List Value) (hl : cc.length = cs.length)
    (hv : ∀ j,j < cs.length → bu m (cs.getD j undef) (cc.getD j undef)) (h1 : ∀ j,j < cs.length → scalar (cs.getD j undef) = true) (fz : Nat × Nat) (hfz : ∀ o,o < cs.length + rest.length → ¬ (fz.1 ≤ o ∧ o < fz.2)) :
    Rep B w0 (σ.push (.cells t cs .rw)) (m.push ⟨w.heap.size,0,cs.length + rest.length⟩) (w.alloc (.cells (cc ++ rest).toArray t fz)) := by
  have := h.pushArr t cs (cc ++ rest).toArray (by simp [hl]) (fun j hj => by
    have e : (cc ++ rest).toArray.getD j undef = cc.getD j undef := by
      have hj' : j < cc.length := by omega
      simp [Array.getD_eq_getD_getElem?,List.getD,List.getElem?_append_left hj']
    rw [e]; exact hv j hj) h1 fz (fun o ho => hfz o (by simpa [hl] using ho)) (w' := w.alloc (.cells (cc ++ rest).toArray t fz))
    ⟨rfl,rfl,rfl,by simp,fun k hk => Below.heap_alloc _ _ _ hk⟩ (heap_alloc_new w _)
  simpa [hl] using this
theorem Rep.kill (h : Rep B w0 σ m w) (i : Nat) : Rep B w0 (σ.set i .dead) m w := by
  refine ⟨h.next,h.below,h.base,fun j hj => ?_,fun a b ha hb hab hr hl => ?_⟩
  · by_cases e : j = i
    · simp [ak.set,e,we]
    · simp only [ak.set,if_neg e]; exact h.blk j hj
  · have ea : a ≠ i := by rintro rfl; simp [ak.set,Blk.own] at hr
    have eb : b ≠ i := by rintro rfl; simp [ak.set,Blk.live] at hl
    simp only [ak.set,if_neg ea,if_neg eb] at hr hl ⊢
    exact h.apart a b ha hb hab hr hl
theorem Rep.reuse (h : Rep B w0 σ m w) {i : Nat} (hi : i < σ.next) {t : TypeId} {old : List Value} (hq : σ.blk i = .cells t old .rw) (cs : List Value) {w' : World} {cur' : Array Value} {fz : Nat × Nat}
    (hw : w'.heap[(m.l i).b]? = some (.cells cur' t fz)) (hsz : cur'.size = (m.l i).room) (hfz : ∀ o,o < cur'.size → ¬ (fz.1 ≤ o ∧ o < fz.2)) (hB : B ≤ (m.l i).b)
    (hoth : ∀ b,b ≠ (m.l i).b → w'.heap[b]? = w.heap[b]?) (hs : w'.heap.size = w.heap.size) (ho : w'.os = w.os) (ht : w'.tape = w.tape) (hou : w'.output = w.output)
    (hle : cs.length ≤ cur'.size) (hv : ∀ j,j < cs.length → bu m (cs.getD j undef) (cur'.getD j undef)) (h1 : ∀ j,j < cs.length → scalar (cs.getD j undef) = true) :
    Rep B w0 ((σ.set i .dead).push (.cells t cs .rw)) (m.push ⟨(m.l i).b,0,(m.l i).room⟩) w' := by
  have hbel : Below B w0 w' := h.below.trans ⟨ho,ht,hou,by omega,fun k hk => hoth k (by omega)⟩
  have hn : (σ.set i .dead).next = σ.next := rfl
  have key : ∀ k,k < σ.next → (((σ.set i .dead).push (.cells t cs .rw)).blk k) = if k = i then .dead else σ.blk k := fun k hk => by
    have : k ≠ σ.next := by omega
    simp [ak.push,ak.set,this]
  have kem : ∀ k,k < σ.next → (m.push ⟨(m.l i).b,0,(m.l i).room⟩).l k = m.l k := fun k hk => by simp [Mp.push,h.next]; omega
  have knw : (m.push ⟨(m.l i).b,0,(m.l i).room⟩).l σ.next = ⟨(m.l i).b,0,(m.l i).room⟩ := by simp [Mp.push,h.next]
  refine ⟨by simp [Mp.push,ak.push,ak.set,h.next],hbel,h.base,fun j hj => ?_,fun a b ha hb hab hr hl => ?_⟩
  · have hj2 : j < σ.next + 1 := hj
    by_cases hjn : j = σ.next
    · subst hjn
      rw [knw]
      have e1 : ((σ.set i .dead).push (.cells t cs .rw)).blk σ.next = .cells t cs .rw := by simp [ak.push,ak.set]
      rw [e1]
      refine ⟨cur',t,fz,hw,fun q hq' => ⟨by simp; omega,?_,h1 q hq'⟩,fun _ => ⟨hB,rfl,rfl,hsz,hfz⟩⟩
      have := (hv q hq').mono (m.le_push ⟨(m.l i).b,0,(m.l i).room⟩)
      simpa using this
    · have hj' : j < σ.next := by omega
      rw [key j hj',kem j hj']
      by_cases e : j = i
      · rw [if_pos e]; trivial
      · rw [if_neg e]
        have hb := h.blk j hj'
        cases hlv : (σ.blk j).live with
        | false => cases hqj : σ.blk j <;> simp_all [Blk.live,we]
        | true =>
          refine (hb.mono (m.le_push _)).world (hoth _ ?_)
          exact fun e2 => h.apart_rw hi hj' (Ne.symm e) (by rw [hq]; rfl) hlv e2.symm
  · have ha2 : a < σ.next + 1 := ha
    have hb2 : b < σ.next + 1 := hb
    have dead : ∀ k,k < σ.next → (((σ.set i .dead).push (.cells t cs .rw)).blk k).live = true → k ≠ i ∧ (σ.blk k).live = true := fun k hk hlv => by
      rw [key k hk] at hlv
      by_cases e : k = i
      · rw [if_pos e] at hlv; cases hlv
      · rw [if_neg e] at hlv; exact ⟨e,hlv⟩
    have rwlive : ∀ k : Blk,k.own = true → k.live = true := fun k hk => Blk.live_of_own hk
    by_cases han : a = σ.next
    · have hb' : b < σ.next := by omega
      obtain ⟨e1,e2⟩ := dead b hb' hl
      rw [han,knw,kem b hb']
      exact .inl (h.apart_rw hi hb' (Ne.symm e1) (by rw [hq]; rfl) e2)
    · have ha' : a < σ.next := by omega
      obtain ⟨e1,e2⟩ := dead a ha' (rwlive _ hr)
      have hra : (σ.blk a).own = true := by rw [key a ha',if_neg e1] at hr; exact hr
      by_cases hbn : b = σ.next
      · rw [hbn,knw,kem a ha']
        exact .inl (Ne.symm (h.apart_rw hi ha' (Ne.symm e1) (by rw [hq]; rfl) (Blk.live_of_own hra)))
      · have hb' : b < σ.next := by omega
        obtain ⟨e3,e4⟩ := dead b hb' hl
        rw [kem a ha',kem b hb',key a ha',key b hb',if_neg e1,if_neg e3]
        exact h.apart a b ha' hb' hab hra e4
theorem Rep.reuseA (h : Rep B w0 σ m w) {i : Nat} (hi : i < σ.next) {t : TypeId} {old : List Value} (hq : σ.blk i = .cells t old .app) (cs : List Value) {w' : World} {cur cur' : Array Value} {fz : Nat × Nat}
    (hw0 : w.heap[(m.l i).b]? = some (.cells cur t fz)) (hw : w'.heap[(m.l i).b]? = some (.cells cur' t fz)) (hsame : ∀ q,q < old.length → cur'.getD q undef = cur.getD q undef) (hss : cur'.size = cur.size) (hbase : (m.l i).base = 0)
    (hsz : cur'.size = (m.l i).room) (hfz : ∀ o,o < cur'.size → ¬ (fz.1 ≤ o ∧ o < fz.2)) (hB : B ≤ (m.l i).b)
    (hoth : ∀ b,b ≠ (m.l i).b → w'.heap[b]? = w.heap[b]?) (hs : w'.heap.size = w.heap.size) (ho : w'.os = w.os) (ht : w'.tape = w.tape) (hou : w'.output = w.output)
    (hlc : old.length ≤ cs.length) (hle : cs.length ≤ cur'.size) (hv : ∀ j,j < cs.length → bu m (cs.getD j undef) (cur'.getD j undef)) (h1 : ∀ j,j < cs.length → scalar (cs.getD j undef) = true) :
    Rep B w0 ((σ.set i (.cells t old .ro)).push (.cells t cs .app)) (m.push ⟨(m.l i).b,0,(m.l i).room⟩) w' := by
  have hbel : Below B w0 w' := h.below.trans ⟨ho,ht,hou,by omega,fun k hk => hoth k (by omega)⟩
  have key : ∀ k,k < σ.next → (((σ.set i (.cells t old .ro)).push (.cells t cs .app)).blk k) = if k = i then .cells t old .ro else σ.blk k := fun k hk => by
    have : k ≠ σ.next := by omega
    simp [ak.push,ak.set,this]
  have kem : ∀ k,k < σ.next → (m.push ⟨(m.l i).b,0,(m.l i).room⟩).l k = m.l k := fun k hk => by simp [Mp.push,h.next]; omega
  have knw : (m.push ⟨(m.l i).b,0,(m.l i).room⟩).l σ.next = ⟨(m.l i).b,0,(m.l i).room⟩ := by simp [Mp.push,h.next]
  have enw : ((σ.set i (.cells t old .ro)).push (.cells t cs .app)).blk σ.next = .cells t cs .app := by simp [ak.push,ak.set]
  -- what zapp the row
  have shr : ∀ j,j < σ.next → j ≠ i → (σ.blk j).live = true → (m.l i).b ≠ (m.l j).b ∨ ∃ t' cs',σ.blk j = .cells t' cs' .ro ∧ (m.l j).base + cs'.length ≤ old.length := fun j hj hji hl => by
    rcases h.apart i j hi hj (Ne.symm hji) (by rw [hq]; rfl) hl with e | e
    · exact .inl e
    · obtain ⟨_,_,t2,c2,e1,e2,e3⟩ := sb e
      rw [hq] at e1
      injection e1 with _ e1
      exact .inr ⟨t2,c2,e2,by rw [e1]; exact e3⟩
  refine ⟨by simp [Mp.push,ak.push,ak.set,h.next],hbel,h.base,fun j hj => ?_,fun a b ha hb hab hr hl => ?_⟩
  · have hj2 : j < σ.next + 1 := hj
    by_cases hjn : j = σ.next
    · subst hjn
      rw [knw,enw]
      refine ⟨cur',t,fz,hw,fun q hq' => ⟨by simp; omega,?_,h1 q hq'⟩,fun _ => ⟨hB,rfl,rfl,hsz,hfz⟩⟩
      have := (hv q hq').mono (m.le_push ⟨(m.l i).b,0,(m.l i).room⟩)
      simpa using this
    · have hj' : j < σ.next := by omega
      rw [key j hj',kem j hj']
      have hb := h.blk j hj'
      by_cases e : j = i
      · subst e
        rw [if_pos rfl]
        rw [hq] at hb
        obtain ⟨c,t',fz',g1,g2,g3⟩ := hb
        rw [hw0] at g1
        injection g1 with g1
        injection g1 with g1 g1' g1''
        subst g1
        refine ⟨cur',t,fz,hw,fun q hq' => ?_,fun e => (e rfl).elim⟩
        obtain ⟨k1,k2,k3⟩ := g2 q hq'
        rw [hbase,Nat.zero_add] at k1 k2 ⊢
        rw [hsame q hq',hss]
        exact ⟨k1,k2.mono (m.le_push _),k3⟩
      · rw [if_neg e]
        cases hlv : (σ.blk j).live with
        | false => cases hqj : σ.blk j <;> simp_all [Blk.live,we]
        | true =>
          by_cases hbb : (m.l i).b = (m.l j).b
          · rcases shr j hj' e hlv with e1 | ⟨t2,c2,e1,e2⟩
            · exact absurd hbb e1
            · rw [e1] at hb ⊢
              obtain ⟨c,t',fz',g1,g2,g3⟩ := hb
              rw [← hbb,hw0] at g1
              injection g1 with g1
              injection g1 with g1 g1' g1''
              subst g1
              refine ⟨cur',t,fz,by rw [← hbb]; exact hw,fun q hq' => ?_,fun e => (e rfl).elim⟩
              obtain ⟨k1,k2,k3⟩ := g2 q hq'
              rw [hsame _ (by omega),hss]
              exact ⟨k1,k2.mono (m.le_push _),k3⟩
          · exact (hb.mono (m.le_push _)).world (hoth _ (Ne.symm hbb))
  · have ha2 : a < σ.next + 1 := ha
    have hb2 : b < σ.next + 1 := hb
    have old' : ∀ k,k < σ.next → (((σ.set i (.cells t old .ro)).push (.cells t cs .app)).blk k).live = true → (σ.blk k).live = true := fun k hk hlv => by
      rw [key k hk] at hlv
      by_cases e : k = i
      · rw [e,hq]; rfl
      · rw [if_neg e] at hlv; exact hlv
    by_cases han : a = σ.next
    · have hb' : b < σ.next := by omega
      rw [han,knw,kem b hb',enw,key b hb']
      by_cases e : b = i
      · subst e
        rw [if_pos rfl,hbase.symm.trans rfl]
        right
        simp only [zapp,hbase,Nat.zero_add]
        exact hlc
      · rw [if_neg e]
        rcases shr b hb' e (old' b hb' hl) with e1 | ⟨t2,c2,e1,e2⟩
        · exact .inl e1
        · right
          rw [e1]
          simp only [zapp]
          omega
    · have ha' : a < σ.next := by omega
      rw [key a ha'] at hr ⊢
      have eai : a ≠ i := by
        rintro rfl
        rw [if_pos rfl] at hr
        cases hr
      rw [if_neg eai] at hr ⊢
      have hla := Blk.live_of_own hr
      by_cases hbn : b = σ.next
      · rw [hbn,knw,kem a ha']
        rcases shr a ha' eai hla with e1 | ⟨t2,c2,e1,e2⟩
        · exact .inl (Ne.symm e1)
        · rw [e1] at hr; cases hr
      · have hb' : b < σ.next := by omega
        rw [kem a ha',kem b hb',key b hb']
        have q := h.apart a b ha' hb' hab hr (old' b hb' hl)
        by_cases ebi : b = i
        · rw [if_pos ebi]
          refine q.imp id fun hs => ?_
          obtain ⟨_,_,t2,c2,e1,e2,_⟩ := sb hs
          rw [ebi,hq] at e2
          cases e2
        · rw [if_neg ebi]; exact q
theorem rk (P : Program) (g o : Nat) (t : TypeId) (fz : Nat × Nat) : ∀ (vs : List Value) (k : Nat) (w : World) (cur : Array Value),w.heap[g]? = some (.cells cur t fz) → o + k + vs.length ≤ cur.size →
    (∀ q,q < cur.size → ¬ (fz.1 ≤ q ∧ q < fz.2)) → (∀ v ∈ vs,scalar v = true) →
    ∃ w' cur',(storeCells ⟨g,o,none⟩ vs k).run P w = .ok () w' ∧ w'.heap[g]? = some (.cells cur' t fz) ∧ cur'.size = cur.size ∧
      (∀ j,cur'.getD j undef = if o + k ≤ j ∧ j < o + k + vs.length then vs.getD (j - (o + k)) undef else cur.getD j undef) ∧
      (∀ b,b ≠ g → w'.heap[b]? = w.heap[b]?) ∧ w'.heap.size = w.heap.size ∧ w'.os = w.os ∧ w'.tape = w.tape ∧ w'.output = w.output
  | [],k,w,cur,hg,hl,hfz,h1 => ⟨w,cur,rfl,hg,rfl,fun j => by rw [if_neg (by simp only [List.length_nil]; omega)],fun _ _ => rfl,rfl,rfl,rfl,rfl⟩
  | v :: r,k,w,cur,hg,hl,hfz,h1 => by
    have hlt : o + k < cur.size := by simp at hl; omega
    have hcell : w.cell? ⟨g,o + k,none⟩ = some cur[o + k] := by simp [World.cell?,hg,hlt]
    have hfro : w.frozen? ⟨g,o + k,none⟩ = false := by
      have := hfz _ hlt
      simp only [World.frozen?,hg]
      simpa using this
    have hst : (store ((⟨g,o,none⟩ : Addr).add k) v).run P w = .ok () (w.setCell ⟨g,o + k,none⟩ v) := by
      rw [j8,run_store P w _ v _ (by rw [zae8]; exact h1 v (by simp)),hcell]
      simp [hfro]
    obtain ⟨w',cur',e1,e2,e3,e4,e5,e6,e7,e8,e9⟩ := rk P g o t fz r (k + 1) (w.setCell ⟨g,o + k,none⟩ v) (cur.setIfInBounds (o + k) v) (yr hg v) (by simp at hl ⊢; omega) (fun q hq => hfz q (by simpa using hq)) (fun x hx => h1 x (by simp [hx]))
    refine ⟨w',cur',?_,e2,by simpa using e3,fun j => ?_,fun b hb => ?_,by simpa [World.setCell] using e6,by simpa [World.setCell] using e7,by simpa [World.setCell] using e8,by simpa [World.setCell] using e9⟩
    · simp only [storeCells,Sem.run_bind,hst,Result.andThen_ok]
      exact e1
    · rw [e4]
      by_cases hj : j = o + k
      · subst hj
        have : (cur.setIfInBounds (o + k) v).getD (o + k) undef = v := by simp [Array.getD,hlt]
        rw [if_neg (by omega),if_pos (by simp),this]
        simp [List.getD]
      · by_cases hj2 : o + k ≤ j ∧ j < o + k + (v :: r).length
        · rw [if_pos hj2,if_pos (by simp at hj2; omega)]
          have : j - (o + k) = (j - (o + (k + 1))) + 1 := by omega
          rw [this]
          simp [List.getD]
        · rw [if_neg hj2,if_neg (by simp at hj2; omega)]
          simp only [Array.getD_eq_getD_getElem?]
          rw [Array.getElem?_setIfInBounds_ne (fun e => hj e.symm)]
    · rw [e5 b hb,Below.heap_setCell _ _ _ _ hb]
end mem
end Go.Proofs.Ytdcfoaafkppojaa.Sh
