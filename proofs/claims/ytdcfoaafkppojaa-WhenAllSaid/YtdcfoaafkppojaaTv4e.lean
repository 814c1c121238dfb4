/- The tree level: objects that get a higher number; objects that grow. -/
import Derived.Test.YtdcfoaafkppojaaTv4c
set_option linter.unusedVariables false
set_option linter.unusedSimpArgs false
namespace Go.Proofs.Ytdcfoaafkppojaa.Sh
open Go Go.RowKit
section
variable {P : Program} {B : Bs} {e e' : Env} {fr : TF} {tk tk' : TK} {τ τ' : TH} {fr' : Fr} {σ σ' : ak}
theorem za5j (id id' : Nat) : ∀ (fr : TF) (t : Nat),lkp (zaw8 id id' fr) t = ren id id' (lkp fr t)
  | [],t => rfl
  | (k,v) :: r,t => by
    show lkp ((k,ren id id' v) :: zaw8 id id' r) t = ren id id' (lkp ((k,v) :: r) t)
    simp only [lkp]
    by_cases h : t = k
    · rw [if_pos h,if_pos h]
    · rw [if_neg h,if_neg h]; exact za5j id id' r t
theorem CR.move {id id' j : Nat} {v : TV} {w : Value} (hk : zg σ σ') (hid : id < id') (hb : ∀ i,i < id + 1 → e'.b i = e.b i) (hn : id' + 1 ≤ e'.n) (hc : ∀ g,e.who g = .cell id j → e'.who g = .cell id' j ∧ σ'.at g = σ.at g) (h : CR σ e id j v w) : CR σ' e' id' j v w := by
  cases v with
  | slo t l =>
    refine ⟨h.1.mono hk,?_⟩
    rcases h.2 with h2 | ⟨hne,g,s,cs,q1,q2,q3,q4⟩
    · exact .inl h2
    · obtain ⟨r1,r2⟩ := hc g q2
      exact .inr ⟨hne,g,s,cs,q1,r1,by rw [r2]; exact q3,q4⟩
  | _ => exact ⟨h.1.cut hk hb (by omega) h.2.1,zalf (by omega) _ h.2.1,h.2.2⟩
def Own.move (id id' : Nat) : Own → Own
  | .obj i => if i = id then .obj id' else .obj i
  | .cell i j => if i = id then .cell id' j else .cell i j
  | o => o
theorem zax5 {id id' : Nat} {o : Own} : o.move id id' = .none ↔ o = .none := by
  cases o <;> simp only [Own.move] <;> try split <;> simp
theorem za5d {id id' : Nat} {o : Own} {i : Nat} : o.move id id' = .tok i ↔ o = .tok i := by
  cases o <;> simp only [Own.move] <;> try split <;> simp
theorem za5c {id id' k : Nat} {o : Own} (h : o.move id id' = .obj k ∨ ∃ j,o.move id id' = .cell k j) : k = id' ∨ (o = .obj k ∨ ∃ j,o = .cell k j) := by
  cases o with
  | obj i =>
    simp only [Own.move] at h
    split at h
    · rcases h with h | ⟨_,h⟩
      · injection h with h; exact .inl h.symm
      · cases h
    · exact .inr h
  | cell i j =>
    simp only [Own.move] at h
    split at h
    · rcases h with h | ⟨_,h⟩
      · cases h
      · injection h with h; exact .inl h.symm
    · exact .inr h
  | _ => rcases h with h | ⟨_,h⟩ <;> cases h
theorem zax6 {id id' lo : Nat} {o : Own} (h : lo ≤ id) (hm : (o.move id id').mine lo) : o.mine lo := by
  cases o with
  | obj i =>
    simp only [Own.move] at hm
    split at hm
    · rename_i hh; simp only [Own.mine,hh]; exact h
    · exact hm
  | cell i j =>
    simp only [Own.move] at hm
    split at hm
    · rename_i hh; simp only [Own.mine,hh]; exact h
    · exact hm
  | _ => exact hm
theorem za5f {id id' lo : Nat} {o : Own} (h : lo ≤ id) (hm : ¬ o.mine lo) : o.move id id' = o := by
  cases o with
  | obj i => simp only [Own.move]; rw [if_neg]; rintro rfl; exact hm h
  | cell i j => simp only [Own.move]; rw [if_neg]; rintro rfl; exact hm h
  | _ => rfl
theorem za5e {id id' i : Nat} (h : i ≠ id) : (Own.obj i).move id id' = .obj i := by simp [Own.move,h]
theorem zax7 {id id' i j : Nat} (h : i ≠ id) : (Own.cell i j).move id id' = .cell i j := by simp [Own.move,h]
theorem St.lift (h : St B e fr tk τ fr' σ) {id : Nat} {b : Ob} (hat : τ.at id = some b) (hid : id < τ.next) (hlo : B.lo ≤ id) (hne : b.cs ≠ []) :
    ∃ e1,St B e1 (zaw8 id τ.next fr) tk ((τ.put id ⟨b.t,[]⟩).push b) fr' σ ∧ Chg (fun _ => False) e σ e1 σ := by
  obtain ⟨b',hb',ho⟩ := h.ob id hid
  rw [hat] at hb'; injection hb' with hb'; subst hb'
  obtain ⟨hwho,ds,h1,h2,h3⟩ := ho.live hne
  have hn := h.n
  have eb : ∀ i,i < e.n → (if i = e.n then e.b id else e.b i) = e.b i := fun i hi => if_neg (by omega)
  have ebn : (if τ.next = e.n then e.b id else e.b τ.next) = e.b id := if_pos hn.symm
  have base : St B ⟨fun i => if i = e.n then e.b id else e.b i,e.n + 1,fun g => (e.who g).move id e.n⟩ fr tk ((τ.put id ⟨b.t,[]⟩).push b) fr' σ := by
    refine h.step ⟨.refl _,Nat.le_succ _,eb,fun _ h => h,fun i n t hi hn => ⟨n,t,hn,.inl ⟨rfl,.inl rfl,fun g hg => ⟨za5d.2 hg,rfl⟩⟩⟩⟩ (Nat.le_refl _) (fun _ _ _ => rfl) (by simp only; rw [ep,az,hn]) rfl
      (fun g hg => h.mine g (zax6 hlo hg)) (fun g hg => h.wlt g (fun hq => hg (zax5.2 hq))) (fun g k hg => ?_) (fun g _ hg => za5f hlo hg) (fun k hk => ?_)
    · rcases za5c hg with rfl | hg
      · exact Nat.lt_succ_self _
      · exact Nat.lt_succ_of_lt (h.wid g k hg)
    · rw [ep,az] at hk
      by_cases hkn : k = τ.next
      · subst hkn
        refine ⟨b,by rw [← az (τ := τ) (id := id) (b := ⟨b.t,[]⟩)]; exact yx,.inr ⟨?_,ds,?_,h2,fun j hj => ⟨?_,(h3 j hj).2⟩⟩⟩
        · simp only; rw [ebn,hwho]; simp [Own.move,hn]
        · simp only; rw [ebn]; exact h1
        · exact (h3 j hj).1.move (.refl _) hid (fun i hi => eb i (by omega)) (by simp only; omega) fun g hg => ⟨by simp only [hg]; simp [Own.move,hn],rfl⟩
      · have hk' : k < τ.next := by omega
        by_cases hki : k = id
        · subst hki
          exact ⟨_,by rw [ur (by rw [az]; exact hk')]; exact vp hk',.inl rfl⟩
        · obtain ⟨b2,q1,q2⟩ := h.ob k hk'
          refine ⟨b2,by rw [ur (by rw [az]; exact hk'),yz hki]; exact q1,zaru.step (e := e) (.refl _) (fun i hi => eb i (by omega)) (by simp only; omega) (fun _ => rfl) (fun q => ?_) (fun g j hg => ⟨?_,rfl⟩) q2⟩
          · simp only; rw [q,za5e hki]
          · simp only; rw [hg,zax7 hki]
  refine ⟨_,base.frame fun t => ?_,.refl _,Nat.le_refl _,Nat.le_succ _,eb,fun _ _ _ _ => rfl⟩
  rw [za5j]
  have ht := base.fm t
  generalize lkp fr t = v at ht
  cases v with
  | ptr i off =>
    simp only [ren]
    split
    · rename_i hi
      subst hi
      obtain ⟨g1,g2⟩ := u9 ht
      rw [g2]
      have e1 := eb i (by rw [hn]; exact hid)
      simp only [e1]
      have := TR.ptr (σ := σ) (e := ⟨fun k => if k = e.n then e.b i else e.b k,e.n + 1,fun g => (e.who g).move i e.n⟩) (tk := tk) τ.next off (by simp only; omega)
      simp only [ebn] at this
      exact this
    · exact ht
  | _ => exact ht
theorem zay5 {s : Nat} : ∀ (xs : List TV) (i j : Nat),(∀ i,i < xs.length → (xs.getD i .undef).cells.length = s) → i < xs.length → j < s → (xs.flatMap TV.cells).getD (i * s + j) .undef = (xs.getD i .undef).cells.getD j .undef
  | [],i,j,_,hi,_ => by cases hi
  | v :: r,i,j,hc,hi,hj => by
    have hv : v.cells.length = s := hc 0 (Nat.zero_lt_succ _)
    rw [List.flatMap_cons]
    cases i with
    | zero =>
      have : j < v.cells.length := by omega
      simp [List.getD_eq_getElem?_getD,List.getElem?_append_left this]
    | succ i =>
      have e1 : (i + 1) * s + j = v.cells.length + (i * s + j) := by rw [hv,Nat.add_mul]; omega
      rw [e1]
      have := zay5 r i j (fun k hk => hc (k + 1) (Nat.succ_lt_succ hk)) (Nat.lt_of_succ_lt_succ hi) hj
      simp only [List.getD_eq_getElem?_getD,List.getElem?_append_right (Nat.le_add_right _ _),Nat.add_sub_cancel_left] at this ⊢
      exact this
theorem zah3 {s : Nat} : ∀ (xs : List TV),(∀ i,i < xs.length → (xs.getD i .undef).cells.length = s) → (xs.flatMap TV.cells).length = xs.length * s
  | [],_ => by simp
  | v :: r,hc => by
    have hv : v.cells.length = s := hc 0 (Nat.zero_lt_succ _)
    rw [List.flatMap_cons,List.length_append,hv,zah3 r (fun k hk => hc (k + 1) (Nat.succ_lt_succ hk)),List.length_cons,Nat.add_mul]
    omega
theorem pureS_pr {v : TV} {w : Value} (h : PR σ v w) (hp : v.pureS = true) (id j : Nat) : CR σ e id j v w := by
  cases v with
  | slo t l => cases hp
  | sl l => exact ⟨.pr h,rfl,rfl⟩
  | func f a b =>
    cases h
    exact ⟨.pr (.func _),rfl,rfl⟩
  | _ => first | (cases hp; done) | exact ⟨.pr h,rfl,rfl⟩
theorem pure_cells {v : TV} (h : v.pure = true) : ∀ c ∈ v.cells,c.pureS = true := by
  intro c hc
  cases v with
  | agg cs => exact List.all_eq_true.1 h c hc
  | _ =>
    simp only [TV.cells,List.mem_singleton] at hc
    subst hc
    exact h
theorem flat_cr {s : Nat} {xs : List TV} {news : List Value} (hr : Rows σ xs s news) (hp : ∀ v ∈ xs,v.pure = true) (id k : Nat) : ∀ j,j < news.length → CR σ e id (k + j) ((xs.flatMap TV.cells).getD j .undef) (news.getD j undef) := by
  intro j hj
  rw [hr.len] at hj
  have hs : 0 < s := by
    rcases Nat.eq_zero_or_pos s with h | h
    · subst h; simp at hj
    · exact h
  have hi : j / s < xs.length := Nat.div_lt_of_lt_mul (by rw [Nat.mul_comm]; exact hj)
  have hm : j % s < s := Nat.mod_lt _ hs
  have e1 : j = j / s * s + j % s := by rw [Nat.mul_comm]; exact (Nat.div_add_mod j s).symm
  have h1 := zay5 (s := s) xs (j / s) (j % s) hr.c hi hm
  have h2 := hr.r (j / s) hi (j % s) hm
  rw [← e1] at h1 h2
  rw [h1]
  refine pureS_pr h2 ?_ _ _
  have hmem : xs.getD (j / s) .undef ∈ xs := by rw [jo (List.getElem?_eq_getElem hi)]; exact List.getElem_mem hi
  refine pure_cells (hp _ hmem) _ ?_
  have hlt : j % s < (xs.getD (j / s) .undef).cells.length := by rw [hr.c _ hi]; exact hm
  rw [jo (List.getElem?_eq_getElem hlt)]
  exact List.getElem_mem hlt
theorem St.grow (h : St B e fr tk τ fr' σ) {id s : Nat} {t : TypeId} {b : Ob} {xs : List TV} {news : List Value} (hat : τ.at id = some b) (hid : id < τ.next) (hlo : B.lo ≤ id) (hne : b.cs ≠ []) (hbt : b.t = t)
    (hr : Rows σ xs s news) (hp : ∀ v ∈ xs,v.pure = true) :
    ∃ cs e1,σ.rwRow t (e.b id) = some cs ∧ cs.length = b.cs.length ∧ e1.b τ.next = σ.next ∧ τ.next < e1.n ∧
      St B e1 fr tk ((τ.put id ⟨t,[]⟩).push ⟨t,b.cs ++ xs.flatMap TV.cells⟩) fr' ((σ.set (e.b id) .dead).push (.cells t (cs ++ news) .rw)) ∧ Chg (· = id) e σ e1 ((σ.set (e.b id) .dead).push (.cells t (cs ++ news) .rw)) := by
  obtain ⟨b',hb',ho⟩ := h.ob id hid
  rw [hat] at hb'; injection hb' with hb'; subst hb'
  obtain ⟨hwho,ds,h1,h2,h3⟩ := ho.live hne
  have hn := h.n
  rw [hbt] at h1
  have hgl : e.b id < σ.next := ak.lt_of_at (by rw [h1]; rfl)
  have eb : ∀ i,i < e.n → (if i = e.n then σ.next else e.b i) = e.b i := fun i hi => if_neg (by omega)
  have ebn : (if τ.next = e.n then σ.next else e.b τ.next) = σ.next := if_pos hn.symm
  have nx : (σ.set (e.b id) .dead).next = σ.next := rfl
  have oat : ∀ k,k < σ.next → k ≠ e.b id → ((σ.set (e.b id) .dead).push (.cells t (ds ++ news) .rw)).at k = σ.at k := fun k hk hkg => by
    rw [mq (by rw [nx]; exact hk)]; exact σ.at_set_ne _ hkg
  have nat : ((σ.set (e.b id) .dead).push (.cells t (ds ++ news) .rw)).at σ.next = .cells t (ds ++ news) .rw := (σ.set (e.b id) .dead).at_push_new _
  have hk : zg σ ((σ.set (e.b id) .dead).push (.cells t (ds ++ news) .rw)) := fun k t2 cs md hkk hm => by
    have : k ≠ e.b id := by rintro rfl; rw [h1] at hkk; cases hkk; exact hm rfl
    exact ⟨md,hm,by rw [oat k (ak.lt_of_at (by rw [hkk]; rfl)) this]; exact hkk⟩
  have ne : ∀ k,e.who k ≠ .obj id → k ≠ e.b id := fun k hk hkg => hk (by rw [hkg]; exact hwho)
  have who' : ∀ k,e.who k ≠ .none → e.who k ≠ .obj id → (if k = σ.next then Own.obj e.n else if k = e.b id then .none else (e.who k).move id e.n) = (e.who k).move id e.n := fun k hk hko => by
    have : k ≠ σ.next := by have := h.wlt k hk; omega
    rw [if_neg this,if_neg (ne k hko)]
  refine ⟨ds,⟨fun i => if i = e.n then σ.next else e.b i,e.n + 1,fun k => if k = σ.next then .obj e.n else if k = e.b id then .none else (e.who k).move id e.n⟩,by unfold ak.rwRow; rw [h1]; simp,h2,ebn,by simp only; omega,?_,hk,Nat.le_succ _,Nat.le_succ _,eb,fun k hkn q hne => ?_⟩
  · refine h.step ⟨hk,Nat.le_succ _,eb,fun _ h => h,fun i n t hi hn => ⟨n,t,hn,.inl ⟨rfl,.inl rfl,fun g hg => ⟨?_,?_⟩⟩⟩⟩ (Nat.le_succ _) (fun k hkn hkm => ?_) (by simp only; rw [ep,az,hn]) rfl (fun k hkm => ?_) (fun k hkm => ?_) (fun k i hkm => ?_) (fun k hkn hkm => ?_) (fun k hkn => ?_)
    · simp only; rw [who' g (by rw [hg]; simp) (by rw [hg]; simp)]; exact za5d.2 hg
    · exact oat g (h.wlt g (by rw [hg]; simp)) (ne g (by rw [hg]; simp))
    · have hkg := ne k (fun hh => hkm (by rw [hh]; exact hlo))
      rw [tg (by rw [nx]; exact hkn),zal7 hkg]
    · by_cases h1 : k = σ.next
      · rw [h1]; exact .inl h.nx
      · by_cases h2 : k = e.b id
        · simp only [if_neg h1,if_pos h2] at hkm; exact hkm.elim
        · simp only [if_neg h1,if_neg h2] at hkm; exact h.mine k (zax6 hlo hkm)
    · by_cases h1 : k = σ.next
      · rw [h1]; exact Nat.lt_succ_self _
      · by_cases h2 : k = e.b id
        · rw [h2]; exact Nat.lt_succ_of_lt hgl
        · simp only [if_neg h1,if_neg h2] at hkm; exact Nat.lt_succ_of_lt (h.wlt k (fun hq => hkm (zax5.2 hq)))
    · by_cases h1 : k = σ.next
      · simp only [if_pos h1] at hkm
        rcases hkm with hkm | ⟨_,hkm⟩
        · injection hkm with hkm; rw [← hkm]; exact Nat.lt_succ_self _
        · cases hkm
      · by_cases h2 : k = e.b id
        · simp only [if_neg h1,if_pos h2] at hkm; rcases hkm with hkm | ⟨_,hkm⟩ <;> cases hkm
        · simp only [if_neg h1,if_neg h2] at hkm
          rcases za5c hkm with rfl | hkm
          · exact Nat.lt_succ_self _
          · exact Nat.lt_succ_of_lt (h.wid k i hkm)
    · have hkg := ne k (fun hh => hkm (by rw [hh]; exact hlo))
      simp only
      rw [if_neg (Nat.ne_of_lt hkn),if_neg hkg]; exact za5f hlo hkm
    · rw [ep,az] at hkn
      by_cases hkn2 : k = τ.next
      · subst hkn2
        refine ⟨_,by rw [← az (τ := τ) (id := id) (b := ⟨t,[]⟩)]; exact yx,.inr ⟨?_,ds ++ news,?_,?_,fun j hj => ?_⟩⟩
        · simp only; rw [ebn,if_pos rfl,hn]
        · simp only; rw [ebn]; exact nat
        · rw [List.length_append,List.length_append,h2,hr.len,zah3 xs hr.c]
        · have key : CR ((σ.set (e.b id) .dead).push (.cells t (ds ++ news) .rw)) ⟨fun i => if i = e.n then σ.next else e.b i,e.n + 1,fun k => if k = σ.next then .obj e.n else if k = e.b id then .none else (e.who k).move id e.n⟩ τ.next j
              ((b.cs ++ xs.flatMap TV.cells).getD j .undef) ((ds ++ news).getD j undef) := by
            by_cases hlt : j < ds.length
            · have e1 : (b.cs ++ xs.flatMap TV.cells).getD j .undef = b.cs.getD j .undef := by simp [List.getD_eq_getElem?_getD,List.getElem?_append_left (show j < b.cs.length by omega)]
              have e2 : (ds ++ news).getD j undef = ds.getD j undef := by simp [List.getD_eq_getElem?_getD,List.getElem?_append_left hlt]
              rw [e1,e2]
              refine (h3 j hlt).1.move hk hid (fun i hi => eb i (by omega)) (by simp only; omega) fun g hg => ⟨?_,?_⟩
              · simp only; rw [who' g (by rw [hg]; simp) (by rw [hg]; simp),hg]; simp [Own.move,hn]
              · exact oat g (h.wlt g (by rw [hg]; simp)) (ne g (by rw [hg]; simp))
            · have e1 : (b.cs ++ xs.flatMap TV.cells).getD j .undef = (xs.flatMap TV.cells).getD (j - ds.length) .undef := by simp [List.getD_eq_getElem?_getD,List.getElem?_append_right (show b.cs.length ≤ j by omega),h2]
              have e2 : (ds ++ news).getD j undef = news.getD (j - ds.length) undef := by simp [List.getD_eq_getElem?_getD,List.getElem?_append_right (show ds.length ≤ j by omega)]
              rw [e1,e2]
              have := flat_cr (e := ⟨fun i => if i = e.n then σ.next else e.b i,e.n + 1,fun k => if k = σ.next then .obj e.n else if k = e.b id then .none else (e.who k).move id e.n⟩) (hr.mono hk) hp τ.next ds.length (j - ds.length) (by rw [List.length_append] at hj; omega)
              rwa [show ds.length + (j - ds.length) = j by omega] at this
          exact ⟨key,zad9 key⟩
      · have hk' : k < τ.next := by omega
        by_cases hki : k = id
        · subst hki
          exact ⟨_,by rw [ur (by rw [az]; exact hk')]; exact vp hk',.inl rfl⟩
        · obtain ⟨b2,q1,q2⟩ := h.ob k hk'
          have hko : e.who (e.b k) = .obj k → e.who (e.b k) ≠ .obj id := fun q hq => by rw [q] at hq; injection hq with hq; exact hki hq
          refine ⟨b2,by rw [ur (by rw [az]; exact hk'),yz hki]; exact q1,zaru.step (e := e) hk (fun i hi => eb i (by omega)) (by simp only; omega) (fun q => ?_) (fun q => ?_) (fun g j hg => ⟨?_,?_⟩) q2⟩
          · exact oat _ (h.wlt _ (by rw [q]; simp)) (ne _ (hko q))
          · simp only; rw [who' _ (by rw [q]; simp) (hko q),q,za5e hki]
          · simp only; rw [who' g (by rw [hg]; simp) (by rw [hg]; simp),hg,zax7 hki]
          · exact oat g (h.wlt g (by rw [hg]; simp)) (ne g (by rw [hg]; simp))
  · refine oat _ (h.wlt _ (by rw [q]; simp)) (ne _ ?_)
    rw [q]; intro hq; injection hq with hq; exact hne hq
end
end Go.Proofs.Ytdcfoaafkppojaa.Sh
