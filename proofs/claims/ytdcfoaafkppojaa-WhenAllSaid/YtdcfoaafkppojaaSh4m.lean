/- Maps that a function makes: looked into, written. -/
import Derived.Test.YtdcfoaafkppojaaSh4b
import Derived.MapKept
set_option linter.unusedVariables false
set_option linter.unusedSimpArgs false
namespace Go.Proofs.Ytdcfoaafkppojaa.Sh
open Go Go.RowKit
theorem flatS_rel {m : Mp} {v c : Value} (h : bu m v c) (hf : flatS v = true) : c = v := by
  cases h <;> first | (cases hf; done) | rfl
theorem zay6 {m : Mp} {v c : Value} (h : bu m v c) (hf : zaey v = true) : c = v := by
  cases h with
  | agg a b hs h =>
    congr 1
    apply Array.ext hs.symm
    intro i h1 h2
    have hm : a.toList.getD i undef ∈ a.toList := by
      have h3 : i < a.toList.length := by simpa using h2
      rw [List.getD_eq_getElem?_getD,List.getElem?_eq_getElem h3,Option.getD_some]; exact List.getElem_mem h3
    have e1 : a.getD i undef = a[i] := by simp [Array.getD,h2]
    have e2 : b.getD i undef = b[i] := by simp [Array.getD,h1]
    have e3 : a.toList.getD i undef = a.getD i undef := by simp [List.getD,Array.getD_eq_getD_getElem?]
    have := flatS_rel (h i h2) (by rw [← e3]; exact List.all_eq_true.1 hf _ hm)
    rw [e1,e2] at this
    exact this
  | bool b => rfl
  | int k n => rfl
  | string s => rfl
  | _ => cases hf
section
variable {P : Program} {B : Nat} {w0 : World} {σ : ak} {m : Mp} {w : World} {K : Value → ak → Prop}
theorem zal0 {r : Nat} {es : Array MapEntry} {clock : Nat} (hb : w.heap[r]? = some (.map es clock)) : (getObj r).run P w = .ok (.map es clock) w := by simp [getObj,Sem.run,hb]
theorem setObj_map {r : Nat} {es : Array MapEntry} {clock : Nat} (o : Obj) (hb : w.heap[r]? = some (.map es clock)) : (setObj r o).run P w = .ok () { w with heap := w.heap.setIfInBounds r o } := by simp [setObj,Sem.run,hb]
theorem vrel_mapS {id : Nat} {c : Value} (h : bu m (.map (some id)) c) : id < m.n ∧ c = .map (some (m.l id).b) := by
  cases h with
  | map i h => exact ⟨h,rfl⟩
theorem zatj {kt : TypeId} {v k c ck : Value} {es : List (Value × Value)} (h : Rep B w0 σ m w) (hr : zatk P kt σ v k es) (hv : bu m v c) (hk : bu m k ck) :
    ∃ id ents clock l,v = .map (some id) ∧ id < σ.next ∧ σ.blk id = .map es ∧ c = .map (some (m.l id).b) ∧ ck = k ∧ w.heap[(m.l id).b]? = some (.map ents clock) ∧ ents.size = es.length ∧ keyOf P kt k = some l ∧ Maps.Keyed P kt ∧ B ≤ (m.l id).b ∧
      (∀ j,j < es.length → (ents.getD j default).key = (es.getD j (undef,undef)).1 ∧ bu m (es.getD j (undef,undef)).2 (ents.getD j default).val) ∧ (∀ e ∈ ents.toList,∃ l,keyOf P kt e.key = some l) := by
  obtain ⟨id,rfl,hat,hK,hf,⟨l,hl⟩,hes⟩ := hr
  obtain ⟨hid,rfl⟩ := vrel_mapS hv
  rw [h.next] at hid
  have hb := h.blk id hid
  rw [ak.at_lt hid] at hat
  rw [hat] at hb
  obtain ⟨hB,ents,clock,h1,h2,h3⟩ := hb
  have key : ∀ j,j < es.length → (ents.getD j default).key = (es.getD j (undef,undef)).1 ∧ bu m (es.getD j (undef,undef)).2 (ents.getD j default).val := fun j hj => by
    have hm : es.getD j (undef,undef) ∈ es := by rw [List.getD_eq_getElem?_getD,List.getElem?_eq_getElem hj,Option.getD_some]; exact List.getElem_mem hj
    exact ⟨zay6 (h3 j hj).1 (hes _ hm).1,(h3 j hj).2⟩
  refine ⟨id,ents,clock,l,rfl,hid,hat,rfl,zay6 hk hf,h1,h2,hl,hK,hB,key,fun e he => ?_⟩
  obtain ⟨j,hj,rfl⟩ := List.mem_iff_getElem.1 he
  have hj' : j < ents.size := by simpa using hj
  have e1 : ents.getD j default = ents.toList[j] := by simp [Array.getD,hj']
  have hje : j < es.length := by omega
  have hm : es.getD j (undef,undef) ∈ es := by rw [List.getD_eq_getElem?_getD,List.getElem?_eq_getElem hje,Option.getD_some]; exact List.getElem_mem hje
  rw [← e1,(key j hje).1]
  exact (hes _ hm).2
theorem za1v {t kt et : TypeId} {v k c ck : Value} (ht : P.underlying t = some (.map kt et)) (hz : zab5 P et = some (.bool false)) (h : Rep B w0 σ m w) (hv : bu m v c) (hk : bu m k ck)
    (hK : ∃ es,zatk P kt σ v k es ∧ (∀ e ∈ es,e.1 = k → K e.2 σ) ∧ ((∀ e ∈ es,e.1 ≠ k) → K (.bool false) σ)) : km P B w0 m K ((do pure (.value (← Instr.lookup t c ck false)) : Sem Next).run P w) := by
  obtain ⟨es,hr,k1,k2⟩ := hK
  obtain ⟨id,ents,clock,l,rfl,hid,hat,rfl,rfl,h1,h2,hl,hKy,hB,h3,h4⟩ := zatj h hr hv hk
  have chk := hKy.check w ents.isEmpty hl
  rcases hKy.find w hl ents.toList h4 with ⟨f1,f2⟩ | ⟨j,e,f1,f2,f3⟩
  · have no : ∀ e ∈ es,e.1 ≠ ck := fun e he hq => by
      obtain ⟨j,hj,rfl⟩ := List.mem_iff_getElem.1 he
      have hj' : j < ents.size := by omega
      have e1 : es.getD j (undef,undef) = es[j] := by rw [List.getD_eq_getElem?_getD,List.getElem?_eq_getElem hj,Option.getD_some]
      have e2 : ents.getD j default = ents[j] := by simp [Array.getD,hj']
      have := (h3 j hj).1
      rw [e1,e2,hq] at this
      exact f2 ents[j] (by simp) this
    have run : (Instr.lookup t (.map (some (m.l id).b)) ck false).run P w = .ok (.bool false) w := by
      simp only [Instr.lookup,Sem.run_bind,run_underlying ht,Result.andThen_ok,zal0 h1,Sem.run_pure,chk,f1,x8 hz]
      rfl
    simp only [Sem.run_bind,run,Result.andThen_ok,Sem.run_pure]
    exact .val h (.bool _) (k2 no)
  · have hj : j < ents.size := by have := (List.getElem?_eq_some_iff.1 f2).1; simpa using this
    have hje : j < es.length := by omega
    have e1 : es.getD j (undef,undef) = es[j] := by rw [List.getD_eq_getElem?_getD,List.getElem?_eq_getElem hje,Option.getD_some]
    have e2 : ents.getD j default = e := by
      have := (List.getElem?_eq_some_iff.1 f2).2
      simp [Array.getD,hj]; simpa using this
    obtain ⟨q1,q2⟩ := h3 j hje
    rw [e2] at q1 q2
    have run : (Instr.lookup t (.map (some (m.l id).b)) ck false).run P w = .ok e.val w := by
      simp only [Instr.lookup,Sem.run_bind,run_underlying ht,Result.andThen_ok,zal0 h1,Sem.run_pure,chk,f1]
      rfl
    simp only [Sem.run_bind,run,Result.andThen_ok,Sem.run_pure]
    exact .val h q2 (k1 _ (by rw [e1]; exact List.getElem_mem hje) (by rw [← q1]; exact f3))
theorem za1u {t kt et : TypeId} {v k x c ck cx : Value} (ht : P.underlying t = some (.map kt et)) (h : Rep B w0 σ m w) (hv : bu m v c) (hk : bu m k ck) (hx : bu m x cx)
    (hK : ∃ es id,zatk P kt σ v k es ∧ v = .map (some id) ∧ (∀ e ∈ es,e.1 ≠ k) ∧ K undef (σ.set id (.map (es ++ [(k,x)])))) : km P B w0 m K ((do Instr.mapUpdate t c ck cx; pure .skip : Sem Next).run P w) := by
  obtain ⟨es,id,hr,hvi,no,hK⟩ := hK
  obtain ⟨id',ents,clock,l,rfl,hid,hat,rfl,rfl,h1,h2,hl,hKy,hB,h3,h4⟩ := zatj h hr hv hk
  injection hvi with hvi; injection hvi with hvi; subst hvi
  have chk := hKy.check w false hl
  rcases hKy.find w hl ents.toList h4 with ⟨f1,f2⟩ | ⟨j,e,f1,f2,f3⟩
  · have run : (Instr.mapUpdate t (.map (some (m.l id').b)) ck cx).run P w = .ok () { w with heap := w.heap.setIfInBounds (m.l id').b (.map (ents.push { key := ck,val := cx,born := clock }) (clock + 1)) } := by
      simp only [Instr.mapUpdate,Sem.run_bind,run_underlying ht,Result.andThen_ok,zal0 h1,chk,f1,setObj_map _ h1]
    simp only [Sem.run_bind,run,Result.andThen_ok,Sem.run_pure]
    have hlt : (m.l id').b < w.heap.size := (Array.getElem?_eq_some_iff.1 h1).1
    have oth : ∀ b,b ≠ (m.l id').b → (w.heap.setIfInBounds (m.l id').b (.map (ents.push { key := ck,val := cx,born := clock }) (clock + 1)))[b]? = w.heap[b]? := fun b hb => by
      rw [Array.getElem?_setIfInBounds_ne (Ne.symm hb)]
    refine ⟨m,_,.refl m,?_,hK⟩
    refine ⟨h.next,⟨h.below.os,h.below.tape,h.below.output,by simpa using h.below.size,fun k hk => ?_⟩,h.base,fun i hi => ?_,fun i j hi hj hij hrw hlv => ?_⟩
    · rw [← h.below.block k hk]
      exact oth k (by omega)
    · have hi' : i < σ.next := hi
      by_cases hii : i = id'
      · subst hii
        have e1 : (σ.set i (.map (es ++ [(ck,x)]))).blk i = .map (es ++ [(ck,x)]) := by simp [ak.set]
        rw [e1]
        refine ⟨hB,ents.push { key := ck,val := cx,born := clock },clock + 1,by simp [Array.getElem?_setIfInBounds,hlt],by simp [h2],fun j hj => ?_⟩
        have hb := h.blk i hi'
        rw [hat] at hb
        obtain ⟨_,ents2,clock2,g1,g2,g3⟩ := hb
        rw [h1] at g1; injection g1 with g1; injection g1 with g1 g1'; subst g1 g1'
        by_cases hjl : j < es.length
        · have e3 : (es ++ [(ck,x)]).getD j (undef,undef) = es.getD j (undef,undef) := by simp [List.getD_eq_getElem?_getD,List.getElem?_append_left hjl]
          have e4 : (ents.push { key := ck,val := cx,born := clock }).getD j default = ents.getD j default := by
            have : j < ents.size := by omega
            simp [Array.getD_eq_getD_getElem?,Array.getElem?_push,Nat.ne_of_lt this]
          rw [e3,e4]; exact g3 j hjl
        · have hje : j = es.length := by simp at hj; omega
          subst hje
          have e3 : (es ++ [(ck,x)]).getD es.length (undef,undef) = (ck,x) := by simp [List.getD_eq_getElem?_getD]
          have e4 : (ents.push { key := ck,val := cx,born := clock }).getD es.length default = { key := ck,val := cx,born := clock } := by
            rw [Array.getD_eq_getD_getElem?,← h2,Array.getElem?_push_size]; rfl
          rw [e3,e4]; exact ⟨hk,hx⟩
      · have e1 : (σ.set id' (.map (es ++ [(ck,x)]))).blk i = σ.blk i := by simp [ak.set,hii]
        rw [e1]
        have hb := h.blk i hi'
        cases hlv : (σ.blk i).live with
        | false => cases hq : σ.blk i <;> simp_all [Blk.live,we]
        | true =>
          refine hb.world (oth _ ?_)
          exact (h.apart_rw hid hi' (Ne.symm hii) (by rw [hat]; rfl) hlv).symm
    · have hi' : i < σ.next := hi
      have hj' : j < σ.next := hj
      have e : ∀ k,k ≠ id' → (σ.set id' (.map (es ++ [(ck,x)]))).blk k = σ.blk k := fun k hk => by simp [ak.set,hk]
      by_cases hii : i = id'
      · subst hii
        rw [e j (Ne.symm hij)] at hlv
        exact .inl (h.apart_rw hid hj' hij (by rw [hat]; rfl) hlv)
      · rw [e i hii] at hrw
        by_cases hjj : j = id'
        · subst hjj
          rw [e i hii]
          have := h.apart i j hi' hj' hij hrw (by rw [hat]; rfl)
          rw [hat] at this
          rcases this with this | this
          · exact .inl this
          · obtain ⟨_,_,_,_,_,q,_⟩ := sb this
            cases q
        · rw [e j hjj] at hlv
          rw [e i hii,e j hjj]
          exact h.apart i j hi' hj' hij hrw hlv
  · exfalso
    have hj : j < ents.size := by have := (List.getElem?_eq_some_iff.1 f2).1; simpa using this
    have hje : j < es.length := by omega
    have e1 : es.getD j (undef,undef) = es[j] := by rw [List.getD_eq_getElem?_getD,List.getElem?_eq_getElem hje,Option.getD_some]
    have e2 : ents.getD j default = e := by
      have := (List.getElem?_eq_some_iff.1 f2).2
      simp [Array.getD,hj]; simpa using this
    have := (h3 j hje).1
    rw [e1,e2,f3] at this
    exact no _ (List.getElem_mem hje) this.symm
end
end Go.Proofs.Ytdcfoaafkppojaa.Sh
