import Derived.Test.YtgkkienmocpnbaaM1
import Derived.MapKept
import Derived.Laws.StructEq
set_option linter.unusedVariables false
set_option linter.unusedSimpArgs false
namespace Go.Proofs.Ytgkkienmocpnbaa.Sh
open Go Go.RowKit
theorem za9n {m:Mp} {v c:Value} (h:bm m v c) (hf:zbg5 v = true):c = v:=by
 cases h <;> first | (cases hf; done) | rfl
theorem zbrm {m:Mp} {v c:Value} (h:bm m v c) (hf:zbg6 v = true):c = v:=by
 cases h with
 | agg a b hs h =>
  congr 1
  apply Array.ext hs.symm
  intro i h1 h2
  have hm:a.toList.getD i undef ∈ a.toList:=by
   have h3:i < a.toList.length:=by simpa using h2
   rw [List.getD_eq_getElem?_getD,List.getElem?_eq_getElem h3,Option.getD_some]; exact List.getElem_mem h3
  have e1:a.getD i undef = a[i]:=by simp [Array.getD,h2]
  have e2:b.getD i undef = b[i]:=by simp [Array.getD,h1]
  have e3:a.toList.getD i undef = a.getD i undef:=by simp [List.getD,Array.getD_eq_getD_getElem?]
  have:=za9n (h i h2) (by rw [← e3]; exact List.all_eq_true.1 hf _ hm)
  rw [e1,e2] at this
  exact this
 | bool b => rfl
 | int k n => rfl
 | string s => rfl
 | _ => cases hf
section
variable {P:Program} {B:Nat} {w0:World} {σ:ah} {m:Mp} {w:World} {K:Value → ah → Prop}
theorem zbn0 {r:Nat} {es:Array MapEntry} {clock:Nat} (hb:w.heap[r]? = some (.map es clock)):(getObj r).run P w = .ok (.map es clock) w:=by simp [getObj,Sem.run,hb]
theorem ja {r:Nat} {es:Array MapEntry} {clock:Nat} (o:Obj) (hb:w.heap[r]? = some (.map es clock)):(setObj r o).run P w = .ok () { w with heap:=w.heap.setIfInBounds r o }:=by simp [setObj,Sem.run,hb]
theorem w8 {id:Nat} {c:Value} (h:bm m (.map (some id)) c):id < m.n ∧ c = .map (some (m.l id).b):=by
 cases h with
 | map i h => exact ⟨h,rfl⟩
theorem zbu7 {kt:TypeId} {v k c ck:Value} {es:List (Value × Value)} (h:Rep B w0 σ m w) (hr:zbil P kt σ v k es) (hv:bm m v c) (hk:bm m k ck) :
 ∃ id ents clock l,v = .map (some id) ∧ id < σ.next ∧ σ.blk id = .map es ∧ c = .map (some (m.l id).b) ∧ ck = k ∧ w.heap[(m.l id).b]? = some (.map ents clock) ∧ ents.size = es.length ∧ keyOf P kt k = some l ∧ Maps.Keyed P kt ∧ B ≤ (m.l id).b ∧
  (∀ j,j < es.length → (ents.getD j default).key = (es.getD j (undef,undef)).1 ∧ bm m (es.getD j (undef,undef)).2 (ents.getD j default).val) ∧ (∀ e ∈ ents.toList,∃ l,keyOf P kt e.key = some l):=by
 obtain ⟨id,rfl,hat,hK,hf,⟨l,hl⟩,hes⟩:=hr
 obtain ⟨hid,rfl⟩:=w8 hv
 rw [h.next] at hid
 have hb:=h.blk id hid
 rw [ah.at_lt hid] at hat
 rw [hat] at hb
 obtain ⟨hB,ents,clock,h1,h2,h3⟩:=hb
 have key:∀ j,j < es.length → (ents.getD j default).key = (es.getD j (undef,undef)).1 ∧ bm m (es.getD j (undef,undef)).2 (ents.getD j default).val:=fun j hj => by
  have hm:es.getD j (undef,undef) ∈ es:=by rw [List.getD_eq_getElem?_getD,List.getElem?_eq_getElem hj,Option.getD_some]; exact List.getElem_mem hj
  exact ⟨zbrm (h3 j hj).1 (hes _ hm).1,(h3 j hj).2⟩
 refine ⟨id,ents,clock,l,rfl,hid,hat,rfl,zbrm hk hf,h1,h2,hl,hK,hB,key,fun e he => ?_⟩
 obtain ⟨j,hj,rfl⟩:=List.mem_iff_getElem.1 he
 have hj':j < ents.size:=by simpa using hj
 have e1:ents.getD j default = ents.toList[j]:=by simp [Array.getD,hj']
 have hje:j < es.length:=by omega
 have hm:es.getD j (undef,undef) ∈ es:=by rw [List.getD_eq_getElem?_getD,List.getElem?_eq_getElem hje,Option.getD_some]; exact List.getElem_mem hje
 rw [← e1,(key j hje).1]
 exact (hes _ hm).2
theorem zce6 {t kt et:TypeId} {v k c ck:Value} (ht:P.underlying t = some (.map kt et)) (hz:dt P et = some (.bool false)) (h:Rep B w0 σ m w) (hv:bm m v c) (hk:bm m k ck)
 (hK:∃ es,zbil P kt σ v k es ∧ (∀ e ∈ es,e.1 = k → K e.2 σ) ∧ ((∀ e ∈ es,e.1 ≠ k) → K (.bool false) σ)):ki P B w0 m K ((do pure (.value (← Instr.lookup t c ck false)):Sem Next).run P w):=by
 obtain ⟨es,hr,k1,k2⟩:=hK
 obtain ⟨id,ents,clock,l,rfl,hid,hat,rfl,rfl,h1,h2,hl,hKy,hB,h3,h4⟩:=zbu7 h hr hv hk
 have chk:=hKy.check w ents.isEmpty hl
 rcases hKy.find w hl ents.toList h4 with ⟨f1,f2⟩ | ⟨j,e,f1,f2,f3⟩
 · have no:∀ e ∈ es,e.1 ≠ ck:=fun e he hq => by
    obtain ⟨j,hj,rfl⟩:=List.mem_iff_getElem.1 he
    have hj':j < ents.size:=by omega
    have e1:es.getD j (undef,undef) = es[j]:=by rw [List.getD_eq_getElem?_getD,List.getElem?_eq_getElem hj,Option.getD_some]
    have e2:ents.getD j default = ents[j]:=by simp [Array.getD,hj']
    have:=(h3 j hj).1
    rw [e1,e2,hq] at this
    exact f2 ents[j] (by simp) this
   have run:(Instr.lookup t (.map (some (m.l id).b)) ck false).run P w = .ok (.bool false) w:=by
    simp only [Instr.lookup,Sem.run_bind,run_underlying ht,Result.andThen_ok,zbn0 h1,Sem.run_pure,chk,f1,yf hz]
    rfl
   simp only [Sem.run_bind,run,Result.andThen_ok,Sem.run_pure]
   exact .val h (.bool _) (k2 no)
 · have hj:j < ents.size:=by have:=(List.getElem?_eq_some_iff.1 f2).1; simpa using this
   have hje:j < es.length:=by omega
   have e1:es.getD j (undef,undef) = es[j]:=by rw [List.getD_eq_getElem?_getD,List.getElem?_eq_getElem hje,Option.getD_some]
   have e2:ents.getD j default = e:=by
    have:=(List.getElem?_eq_some_iff.1 f2).2
    simp [Array.getD,hj]; simpa using this
   obtain ⟨q1,q2⟩:=h3 j hje
   rw [e2] at q1 q2
   have run:(Instr.lookup t (.map (some (m.l id).b)) ck false).run P w = .ok e.val w:=by
    simp only [Instr.lookup,Sem.run_bind,run_underlying ht,Result.andThen_ok,zbn0 h1,Sem.run_pure,chk,f1]
    rfl
   simp only [Sem.run_bind,run,Result.andThen_ok,Sem.run_pure]
   exact .val h q2 (k1 _ (by rw [e1]; exact List.getElem_mem hje) (by rw [← q1]; exact f3))
theorem zce7 {t kt et:TypeId} {v k x c ck cx:Value} (ht:P.underlying t = some (.map kt et)) (h:Rep B w0 σ m w) (hv:bm m v c) (hk:bm m k ck) (hx:bm m x cx)
 (hK:∃ es id,zbil P kt σ v k es ∧ v = .map (some id) ∧ (∀ e ∈ es,e.1 ≠ k) ∧ K undef (σ.set id (.map (es ++ [(k,x)])))):ki P B w0 m K ((do Instr.mapUpdate t c ck cx; pure .skip:Sem Next).run P w):=by
 obtain ⟨es,id,hr,hvi,no,hK⟩:=hK
 obtain ⟨id',ents,clock,l,rfl,hid,hat,rfl,rfl,h1,h2,hl,hKy,hB,h3,h4⟩:=zbu7 h hr hv hk
 injection hvi with hvi; injection hvi with hvi; subst hvi
 have chk:=hKy.check w false hl
 rcases hKy.find w hl ents.toList h4 with ⟨f1,f2⟩ | ⟨j,e,f1,f2,f3⟩
 · have run:(Instr.mapUpdate t (.map (some (m.l id').b)) ck cx).run P w = .ok () { w with heap:=w.heap.setIfInBounds (m.l id').b (.map (ents.push { key:=ck,val:=cx,born:=clock }) (clock + 1)) }:=by
    simp only [Instr.mapUpdate,Sem.run_bind,run_underlying ht,Result.andThen_ok,zbn0 h1,chk,f1,ja _ h1]
   simp only [Sem.run_bind,run,Result.andThen_ok,Sem.run_pure]
   have hlt:(m.l id').b < w.heap.size:=(Array.getElem?_eq_some_iff.1 h1).1
   have oth:∀ b,b ≠ (m.l id').b → (w.heap.setIfInBounds (m.l id').b (.map (ents.push { key:=ck,val:=cx,born:=clock }) (clock + 1)))[b]? = w.heap[b]?:=fun b hb => by
    rw [Array.getElem?_setIfInBounds_ne (Ne.symm hb)]
   refine ⟨m,_,.refl m,?_,hK⟩
   refine ⟨h.next,⟨h.below.os,h.below.tape,h.below.output,by simpa using h.below.size,fun k hk => ?_⟩,h.base,fun i hi => ?_,fun i j hi hj hij hrw hlv => ?_⟩
   · rw [← h.below.block k hk]
     exact oth k (by omega)
   · have hi':i < σ.next:=hi
     by_cases hii:i = id'
     · subst hii
       have e1:(σ.set i (.map (es ++ [(ck,x)]))).blk i = .map (es ++ [(ck,x)]):=by simp [ah.set]
       rw [e1]
       refine ⟨hB,ents.push { key:=ck,val:=cx,born:=clock },clock + 1,by simp [Array.getElem?_setIfInBounds,hlt],by simp [h2],fun j hj => ?_⟩
       have hb:=h.blk i hi'
       rw [hat] at hb
       obtain ⟨_,ents2,clock2,g1,g2,g3⟩:=hb
       rw [h1] at g1; injection g1 with g1; injection g1 with g1 g1'; subst g1 g1'
       by_cases hjl:j < es.length
       · have e3:(es ++ [(ck,x)]).getD j (undef,undef) = es.getD j (undef,undef):=by simp [List.getD_eq_getElem?_getD,List.getElem?_append_left hjl]
         have e4:(ents.push { key:=ck,val:=cx,born:=clock }).getD j default = ents.getD j default:=by
          have:j < ents.size:=by omega
          simp [Array.getD_eq_getD_getElem?,Array.getElem?_push,Nat.ne_of_lt this]
         rw [e3,e4]; exact g3 j hjl
       · have hje:j = es.length:=by simp at hj; omega
         subst hje
         have e3:(es ++ [(ck,x)]).getD es.length (undef,undef) = (ck,x):=by simp [List.getD_eq_getElem?_getD]
         have e4:(ents.push { key:=ck,val:=cx,born:=clock }).getD es.length default = { key:=ck,val:=cx,born:=clock }:=by
          rw [Array.getD_eq_getD_getElem?,← h2,Array.getElem?_push_size]; rfl
         rw [e3,e4]; exact ⟨hk,hx⟩
     · have e1:(σ.set id' (.map (es ++ [(ck,x)]))).blk i = σ.blk i:=by simp [ah.set,hii]
       rw [e1]
       have hb:=h.blk i hi'
       cases hlv:(σ.blk i).live with
       | false => cases hq:σ.blk i <;> simp_all [Blk.live,vp]
       | true =>
        refine hb.world (oth _ ?_)
        exact (h.apart_rw hid hi' (Ne.symm hii) (by rw [hat]; rfl) hlv).symm
   · have hi':i < σ.next:=hi
     have hj':j < σ.next:=hj
     have e:∀ k,k ≠ id' → (σ.set id' (.map (es ++ [(ck,x)]))).blk k = σ.blk k:=fun k hk => by simp [ah.set,hk]
     by_cases hii:i = id'
     · subst hii
       rw [e j (Ne.symm hij)] at hlv
       exact .inl (h.apart_rw hid hj' hij (by rw [hat]; rfl) hlv)
     · rw [e i hii] at hrw
       by_cases hjj:j = id'
       · subst hjj
         rw [e i hii]
         have:=h.apart i j hi' hj' hij hrw (by rw [hat]; rfl)
         rw [hat] at this
         rcases this with this | this
         · exact .inl this
         · obtain ⟨_,_,_,_,_,q,_⟩:=n8 this
           cases q
       · rw [e j hjj] at hlv
         rw [e i hii,e j hjj]
         exact h.apart i j hi' hj' hij hrw hlv
 · exfalso
   have hj:j < ents.size:=by have:=(List.getElem?_eq_some_iff.1 f2).1; simpa using this
   have hje:j < es.length:=by omega
   have e1:es.getD j (undef,undef) = es[j]:=by rw [List.getD_eq_getElem?_getD,List.getElem?_eq_getElem hje,Option.getD_some]
   have e2:ents.getD j default = e:=by
    have:=(List.getElem?_eq_some_iff.1 f2).2
    simp [Array.getD,hj]; simpa using this
   have:=(h3 j hje).1
   rw [e1,e2,f3] at this
   exact no _ (List.getElem_mem hje) this.symm
end
theorem kj {α:Type} {v:Option α} {K:α → Prop} (h:mq v K):∃ b,v = some b ∧ K b:=by unfold mq at h; split at h <;> first | exact ⟨_,rfl,h⟩ | exact h.elim
theorem zbfb {m:Mp} {p c:Array Value} (hs:p.size = c.size) (h:∀ i,i < p.size → bm m (p.getD i undef) (c.getD i undef)) {off:Nat} {v:Value} {vs:List Value} (hd:p.toList.drop off = v :: vs):∃ x,c[off]? = some x ∧ bm m v x ∧ p.toList.drop (off + 1) = vs:=by
 have hlt:off < p.size:=by
  have:=congrArg List.length hd
  simp at this; omega
 have hv:p.getD off undef = v:=by
  have:=congrArg (fun l => l[0]?) hd
  simp [List.getElem?_drop] at this
  simp [Array.getD,hlt]
  simpa [hlt] using this
 refine ⟨c[off],by simp [show off < c.size by omega],?_,?_⟩
 · have:=h off hlt
   rw [hv] at this
   simpa [Array.getD,show off < c.size by omega] using this
 · have:=congrArg (List.drop 1) hd
   rw [List.drop_drop] at this
   simpa using this
theorem zbsj {P:Program} {t:TypeId} {k:FK} (hk:zbij P t = some k) {c:Array Value} {off:Nat} {x:Value} (hx:c[off]? = some x) (w:World):(part t c off).run P w = .ok x w:=by
 unfold zbij at hk
 split at hk
 · rename_i hu; simp [part,isAgg,run_underlying hu,hx]
 · rename_i hu; simp [part,isAgg,run_underlying hu,hx]
 · rename_i hu; simp [part,isAgg,run_underlying hu,hx]
 · cases hk
theorem zbhc {P:Program} {m:Mp} {t:TypeId} {k:FK} (hk:zbij P t = some k) {v u x y:Value} (h1:bm m v x) (h2:bm m u y) {b:Bool} (he:zbhr k v u = some b) (d:Nat) (w:World):(Op.equalIn (d + 1) t x y).run P w = .ok b w:=by
 unfold zbij at hk
 split at hk
 · rename_i hu
   injection hk with hk; subst hk
   cases h1 <;> cases h2 <;> simp only [zbhr] at he <;> first | cases he | skip
   rw [run_equalIn_bool' w d t _ _ hu]
 · rename_i hu
   injection hk with hk; subst hk
   cases h1 <;> cases h2 <;> simp only [zbhr] at he <;> first | cases he | skip
   split at he
   · rename_i e
     subst e
     injection he with he
     rw [run_equalIn_int w d t _ _ _ _ hu,he]
   · cases he
 · rename_i hu
   injection hk with hk; subst hk
   cases h1 <;> cases h2 <;> simp only [zbhr] at he <;> first | cases he | skip
   rw [run_equalIn_string w d t _ _ hu,← beq_toListBytes]
 · cases hk
theorem zby9 {P:Program} {m:Mp} (d:Nat) {p c q e:Array Value} (hs:p.size = c.size) (h:∀ i,i < p.size → bm m (p.getD i undef) (c.getD i undef)) (hs2:q.size = e.size) (h2:∀ i,i < q.size → bm m (q.getD i undef) (e.getD i undef)) (w:World) :
 ∀ (fs:List Field) (off:Nat) (ks:List FK) (b:Bool),zbii P fs off = some ks → sw ks (p.toList.drop off) (q.toList.drop off) = some b → (Op.eqFields (d + 1) c e fs).run P w = .ok b w
 | [],off,ks,b,hf,he => by
  simp only [zbii,Option.some.injEq] at hf
  subst hf
  cases hp:p.toList.drop off with
  | cons => rw [hp] at he; simp [sw] at he
  | nil =>
   cases hq:q.toList.drop off with
   | cons => rw [hp,hq] at he; simp [sw] at he
   | nil =>
    rw [hp,hq] at he
    simp only [sw,Option.some.injEq] at he
    subst he
    simp [Op.eqFields]
 | f :: r,off,ks,b,hf,he => by
  simp only [zbii] at hf
  split at hf
  · rename_i hn
    split at hf
    · rename_i k l hk hl
      injection hf with hf
      subst hf
      cases hp:p.toList.drop off with
      | nil => rw [hp] at he; simp [sw] at he
      | cons v vs =>
       cases hq:q.toList.drop off with
       | nil => rw [hp,hq] at he; simp [sw] at he
       | cons u us =>
        rw [hp,hq] at he
        simp only [sw] at he
        obtain ⟨x,x1,x2,x3⟩:=zbfb hs h hp
        obtain ⟨y,y1,y2,y3⟩:=zbfb hs2 h2 hq
        split at he
        · rename_i b1 b2 g1 g2
          injection he with he
          have r1:=zbhc hk x2 y2 g1 d w
          have r2:=zby9 d hs h hs2 h2 w r (off + 1) l b2 hl (by rw [x3,y3]; exact g2)
          have o:=hn.2
          subst o
          simp only [Op.eqFields,if_pos hn.1,Sem.run_bind,zbsj hk x1,zbsj hk y1,Result.andThen_ok,r1]
          cases b1 with
          | false =>
           subst he
           simp
          | true =>
           simp only [Bool.true_and] at he
           subst he
           simpa using r2
        · cases he
    · cases hf
  · cases hf
end Go.Proofs.Ytgkkienmocpnbaa.Sh
namespace Go.Proofs.Ytgkkienmocpnbaa.Sh
open Go Go.RowKit
section
variable {P:Program} {B:Nat} {w0:World} {σ:ah} {m:Mp} {w:World} {K:Value → ah → Prop} {N:Nat} {fr:Fr} {a:Act}
abbrev sv (s:Sem Value):Sem Next:=do pure (.value (← s))
theorem lx {t:TypeId} {v c:Value} (h:Rep B w0 σ m w) (hv:bm m v c) (ha:rz P t = some false)
 (hK:a8 v fun a => mq (σ.load a.block a.off) fun v => K v σ):ki P B w0 m K ((sv (Instr.loadAt t c)).run P w):=by
 cases hv with
 | ptr i o hi =>
  simp only [a8] at hK
  cases hl:σ.load i o with
  | none => rw [hl] at hK; exact hK.elim
  | some x =>
   rw [hl] at hK
   obtain ⟨cc,h1,h2,h3⟩:=h.cell (by rw [← h.next]; exact hi) hl
   simp only [sv,Instr.loadAt,Instr.sureAddr,loadVar,Sem.run_bind,Sem.run_pure,Result.andThen_ok,od ha,Bool.false_eq_true,if_false,run_load,h1]
   exact .val h h2 hK
 | _ => exact hK.elim
theorem lw {t:TypeId} {n:Nat} {v c:Value} (h:Rep B w0 σ m w) (hv:bm m v c) (ha:rz P t = some true) (hn:szT P t = some n)
 (hK:a8 v fun a => mq (σ.row a.block a.off n) fun vs => K (.agg vs.toArray) σ):ki P B w0 m K ((sv (Instr.loadAt t c)).run P w):=by
 cases hv with
 | ptr i o hi =>
  simp only [a8] at hK
  cases hl:σ.row i o n with
  | none => rw [hl] at hK; exact hK.elim
  | some x =>
   rw [hl] at hK
   obtain ⟨cs,h1,h2,h3,_⟩:=h.row P (by rw [← h.next]; exact hi) hl
   simp only [sv,Instr.loadAt,Instr.sureAddr,loadVar,Sem.run_bind,Sem.run_pure,Result.andThen_ok,od ha,if_true,nv hn,h2]
   refine .val h (.agg _ _ (by simpa using h1.symm) fun j hj => ?_) hK
   rw [bh,bh]
   exact h3 j (by simpa using hj)
 | _ => exact hK.elim
theorem ls {t:TypeId} {n:Nat} {v c p q:Value} (h:Rep B w0 σ m w) (hp:bm m p q) (hv:bm m v c) (hn:szT P t = some n)
 (hK:a8 p fun p => v.cells.size = n ∧ mq (σ.store p.block p.off v.cells.toList) fun σ' => K undef σ') :
 ki P B w0 m K ((do (Instr.storeAt t q c); pure .skip:Sem Next).run P w):=by
 cases hp with
 | ptr i o hi =>
  simp only [a8] at hK
  obtain ⟨hs,hK⟩:=hK
  cases hl:σ.store i o v.cells.toList with
  | none => rw [hl] at hK; exact hK.elim
  | some σ' =>
   rw [hl] at hK
   obtain ⟨e1,e2⟩:=zbno hv
   obtain ⟨w',r1,r2⟩:=Rep.store (m:=m) P _ _ rfl rfl v.cells.toList c.cells.toList σ w o 0 h (by rw [← h.next]; exact hi) (by simpa using hl) (by simpa using e1.symm)
    (fun j hj => by rw [ay,ay]; exact e2 j (by simpa using hj))
   simp only [Instr.storeAt,Instr.sureAddr,Sem.run_bind,Sem.run_pure,Result.andThen_ok]
   rw [zb70 hn _ _ (by rw [← e1]; exact hs),r1]
   exact ⟨m,σ',.refl m,r2,hK⟩
 | _ => exact hK.elim
theorem za9b {c1 v2 c2 v3 c3 v1:Value} (h:Rep B w0 σ m w) (h1:bm m v1 c1) (h2:bm m v2 c2) (h3:bm m v3 c3) (hK:pj v1 fun t => K (bif t then v2 else v3) σ) :
 ki P B w0 m K ((do pure (.value (if ← asBool c1 then c2 else c3)):Sem Next).run P w):=by
 cases h1 with
 | bool b =>
  simp only [asBool,Sem.run_bind,Sem.run_pure,Result.andThen_ok]
  cases b
  · exact .val h h3 hK
  · exact .val h h2 hK
 | _ => exact hK.elim
theorem zb3f {op:BinOp} {t:TypeId} {x y:Operand} {v1 c1 v2 c2:Value} (h:Rep B w0 σ m w) (h1:bm m v1 c1) (h2:bm m v2 c2) (hK:mq (a6 op v1 v2) fun v => K v σ) :
 ki P B w0 m K ((sv (do eqGuard op t x y c1 c2; binOp op t c1 c2)).run P w):=by
 cases hv:a6 op v1 v2 with
 | none => rw [hv] at hK; exact hK.elim
 | some v =>
  rw [hv] at hK
  obtain ⟨r1,r2⟩:=vm (P:=P) (w:=w) h1 h2 hv t
  have hg:(eqGuard op t x y c1 c2).run P w = .ok () w:=by
   refine zbpc ?_ ?_ <;> (cases h1 <;> simp_all [a6])
  simp only [sv,Sem.run_bind,hg,Result.andThen_ok,r1,Sem.run_pure]
  exact .val h r2 hK
theorem zb91 {t:TypeId} (hu:P.underlying t = some .bool) (d:Nat) (p q:Bool) (w:World):(Op.equalIn (d + 1) t (.bool p) (.bool q)).run P w = .ok (p == q) w:=by
 simp [Op.equalIn,run_underlying hu]
theorem zbz4 {t:TypeId} (hu:P.underlying t = some .bool) (p q:Bool) (w:World):(Op.equal t (.bool p) (.bool q)).run P w = .ok (p == q) w:=zb91 hu 9999 p q w
theorem zb3h {op:BinOp} {neg:Bool} (hop:op = bif neg then .neq else .eql) {t:TypeId} (hu:P.underlying t = some .bool) {x y:Operand} {v1 c1 v2 c2:Value} (h:Rep B w0 σ m w) (h1:bm m v1 c1) (h2:bm m v2 c2)
 (hK:pj v1 fun p => pj v2 fun q => K (.bool (bif neg then p != q else p == q)) σ) :
 ki P B w0 m K ((sv (do eqGuard op t x y c1 c2; binOp op t c1 c2)).run P w):=by
 cases h1 with
 | bool p =>
  cases h2 with
  | bool q =>
   have hg:(eqGuard op t x y (.bool p) (.bool q)).run P w = .ok () w:=zbpc (by simp) (by simp)
   subst hop
   cases neg
   · simp only [cond_false] at hg
     simp only [sv,Sem.run_bind,hg,Result.andThen_ok,cond_false,binOp,zbz4 hu,Sem.run_pure]
     exact .val h (.bool _) hK
   · simp only [cond_true] at hg
     simp only [sv,Sem.run_bind,hg,Result.andThen_ok,cond_true,binOp,zbz4 hu,Sem.run_pure]
     exact .val h (.bool _) hK
  | _ => exact hK.elim
 | _ => exact hK.elim
def em:NK → Value
 | .p => .pointer none
 | .s => .slice none 0 0
 | .m => .map none
 | .f => .nilFunc
def zb58:NK → TypeDesc → Prop
 | .p,d => ∃ e,d = .pointer e
 | .s,d => ∃ e,d = .slice e
 | .m,d => ∃ k e,d = .map k e
 | .f,d => ∃ x y z,d = .func x y z
theorem zb9t {t:TypeId} {d:TypeDesc} (hu:P.underlying t = some d) {k:NK} (hd:zb58 k d) {v c:Value} (hv:bm m v c) {b:Bool} (hb:r7 k v = some b) (w:World) (n:Nat) :
 (Op.equalIn (n + 1) t c (em k)).run P w = .ok b w:=by
 cases k with
 | p =>
  obtain ⟨e,rfl⟩:=hd
  cases hv <;> simp [r7] at hb <;> subst hb <;> simp [em,Op.equalIn,run_underlying hu]
 | s =>
  obtain ⟨e,rfl⟩:=hd
  cases hv <;> simp [r7] at hb <;> subst hb <;> simp [em,Op.equalIn,run_underlying hu]
 | m =>
  obtain ⟨k,e,rfl⟩:=hd
  cases hv <;> simp [r7] at hb <;> subst hb <;> simp [em,Op.equalIn,run_underlying hu]
 | f =>
  obtain ⟨x,y,z,rfl⟩:=hd
  cases hv <;> simp [r7] at hb <;> subst hb <;> simp [em,Op.equalIn,run_underlying hu]
theorem ol {op:BinOp} {neg:Bool} (hop:op = bif neg then .neq else .eql) {t:TypeId} {d:TypeDesc} (hu:P.underlying t = some d) {k:NK} (hd:zb58 k d) {x y:Operand} {v1 c1:Value} (h:Rep B w0 σ m w) (h1:bm m v1 c1)
 (hK:mq (r7 k v1) fun b => K (.bool (bif neg then !b else b)) σ) :
 ki P B w0 m K ((sv (do eqGuard op t x y c1 (em k); binOp op t c1 (em k))).run P w):=by
 cases hb:r7 k v1 with
 | none => rw [hb] at hK; exact hK.elim
 | some b =>
  rw [hb] at hK
  have hq:(Op.equal t c1 (em k)).run P w = .ok b w:=zb9t hu hd h1 hb w 9999
  have hg:(eqGuard op t x y c1 (em k)).run P w = .ok () w:=by
   refine zbpc ?_ ?_ <;> (cases h1 <;> cases k <;> simp_all [r7])
  have hbin:(binOp op t c1 (em k)).run P w = .ok (.bool (bif neg then !b else b)) w:=by
   subst hop
   cases neg
   · simp only [cond_false]
     have e:binOp .eql t c1 (em k) = (do pure (.bool (← Op.equal t c1 (em k)))):=by cases h1 <;> cases k <;> first | rfl | simp [r7] at hb
     rw [e]; simp [hq]
   · simp only [cond_true]
     have e:binOp .neq t c1 (em k) = (do pure (.bool (!(← Op.equal t c1 (em k))))):=by cases h1 <;> cases k <;> first | rfl | simp [r7] at hb
     rw [e]; simp [hq]
  simp only [sv,Sem.run_bind,hg,Result.andThen_ok,hbin,Sem.run_pure]
  exact .val h (.bool _) hK
theorem zbg0 {op:UnOp} {v c:Value} (h:Rep B w0 σ m w) (h1:bm m v c) (hK:mq (vun op v) fun v => K v σ):ki P B w0 m K ((sv (Op.unary op c)).run P w):=by
 cases hv:vun op v with
 | none => rw [hv] at hK; exact hK.elim
 | some r =>
  rw [hv] at hK
  obtain ⟨r1,r2⟩:=zbbq (P:=P) (w:=w) h1 hv
  simp only [sv,Sem.run_bind,r1,Result.andThen_ok,Sem.run_pure]
  exact .val h r2 hK
theorem za9f {s t:TypeId} {ks k:IntKind} (hs:P.underlying s = some (.int ks)) (ht:P.underlying t = some (.int k)) {v c:Value} (h:Rep B w0 σ m w) (h1:bm m v c) (hK:ao v fun _ n => K (.int k (k.wrap n)) σ) :
 ki P B w0 m K ((sv (convert s t c)).run P w):=by
 cases h1 with
 | int k' n =>
  simp only [sv,convert,Sem.run_bind,run_underlying hs,run_underlying ht,Result.andThen_ok,Conv.intToInt,Sem.run_pure]
  exact .val h (.int _ _) hK
 | _ => exact hK.elim
theorem l4 {s t:TypeId} (hs:P.underlying s = some .string) (ht:P.underlying t = some .string) {v c:Value} (h:Rep B w0 σ m w) (h1:bm m v c) (hK:b8 v fun _ => K v σ) :
 ki P B w0 m K ((sv (convert s t c)).run P w):=by
 cases h1 with
 | string x =>
  simp only [sv,convert,Sem.run_bind,run_underlying hs,run_underlying ht,Result.andThen_ok,Sem.run_pure]
  exact .val h (.string _) hK
 | _ => exact hK.elim
theorem zb8p {t:TypeId} {fields:Array Field} {f:Nat} {fd:Field} {n:Nat} (ht:P.underlying t = some (.struct fields)) (hf:fields[f]? = some fd) (hn:szT P fd.type = some n) (h0:n ≠ 0) {v c:Value} (h:Rep B w0 σ m w) (h1:bm m v c)
 (hK:a8 v fun a => K (.pointer (some ⟨a.block,a.off + fd.offset,none⟩)) σ):ki P B w0 m K ((sv (Instr.fieldAt t c f)).run P w):=by
 cases h1 with
 | ptr i o hi =>
  simp only [sv,Instr.fieldAt,Sem.run_bind,run_underlying ht,Result.andThen_ok,hf,Instr.sureAddr,Sem.run_pure,fieldPlace,nv hn,if_neg h0,iz,Sem.run_ite]
  refine .val h ?_ hK
  have:=bm.ptr (m:=m) i (o + fd.offset) hi
  rwa [← Nat.add_assoc] at this
 | _ => exact hK.elim
theorem zbyc (a:Array Value) (o n j:Nat) (hj:j < n) (ho:o + n ≤ a.size):(a.extract o (o + n)).getD j undef = a.getD (o + j) undef:=by
 rw [Array.getD_eq_getD_getElem?,Array.getD_eq_getD_getElem?,Array.getElem?_extract,if_pos (by omega)]
theorem zce3 {t:TypeId} {fields:Array Field} {f:Nat} {fd:Field} (ht:P.underlying t = some (.struct fields)) (hf:fields[f]? = some fd) (ha:rz P fd.type = some false) {v c:Value} (h:Rep B w0 σ m w) (h1:bm m v c)
 (hK:dd v fun cs => fd.offset < cs.size ∧ K (cs.getD fd.offset undef) σ):ki P B w0 m K ((sv (Instr.field t c f)).run P w):=by
 cases h1 with
 | agg a b hs hv =>
  obtain ⟨hlt,hK⟩:=hK
  have e:b[fd.offset]? = some (b.getD fd.offset undef):=by simp [Array.getD,← hs,hlt]
  simp only [sv,Instr.field,Sem.run_bind,run_underlying ht,Result.andThen_ok,hf,asAgg,Sem.run_pure,part,od ha,Bool.false_eq_true,if_false,e,Sem.run_ite]
  exact .val h (hv _ hlt) hK
 | _ => exact hK.elim
theorem zce4 {t:TypeId} {fields:Array Field} {f:Nat} {fd:Field} {n:Nat} (ht:P.underlying t = some (.struct fields)) (hf:fields[f]? = some fd) (ha:rz P fd.type = some true) (hn:szT P fd.type = some n) {v c:Value} (h:Rep B w0 σ m w) (h1:bm m v c)
 (hK:dd v fun cs => fd.offset + n ≤ cs.size ∧ K (.agg (cs.extract fd.offset (fd.offset + n))) σ):ki P B w0 m K ((sv (Instr.field t c f)).run P w):=by
 cases h1 with
 | agg a b hs hv =>
  obtain ⟨hlt,hK⟩:=hK
  simp only [sv,Instr.field,Sem.run_bind,run_underlying ht,Result.andThen_ok,hf,asAgg,Sem.run_pure,part,od ha,if_true,nv hn,Sem.run_ite]
  refine .val h (.agg _ _ (by simp [hs]) fun j hj => ?_) hK
  have hj':j < n:=by simp at hj; omega
  rw [zbyc _ _ _ _ hj' hlt,zbyc _ _ _ _ hj' (by omega)]
  exact hv _ (by omega)
 | _ => exact hK.elim
theorem zb8b {t e:TypeId} {len n:Nat} (ht:P.underlying t = some (.array len e)) (hn:szT P e = some n) {v c v2 c2:Value} (h:Rep B w0 σ m w) (h1:bm m v c) (h2:bm m v2 c2)
 (hK:a8 v fun a => ao v2 fun _ i => (0 ≤ i ∧ i < len) ∧ K (.pointer (some ⟨a.block,a.off + i.toNat * n,none⟩)) σ):ki P B w0 m K ((sv (Instr.indexAt t c c2)).run P w):=by
 cases h1 with
 | ptr i o hi =>
  cases h2 with
  | int k x =>
   obtain ⟨hx,hK⟩:=hK
   simp only [sv,Instr.indexAt,Sem.run_bind,asIntOf,run_underlying ht,Result.andThen_ok,Instr.sureAddr,Sem.run_pure,if_pos hx,nv hn,iz,Sem.run_ite]
   refine .val h ?_ hK
   have:=bm.ptr (m:=m) i (o + x.toNat * n) hi
   rwa [← Nat.add_assoc] at this
  | _ => exact hK.elim
 | _ => exact hK.elim
theorem zb7q {t e:TypeId} {n:Nat} (ht:P.underlying t = some (.slice e)) (hn:szT P e = some n) {v c v2 c2:Value} (h:Rep B w0 σ m w) (h1:bm m v c) (h2:bm m v2 c2)
 (hK:kSl v fun a len _ => ao v2 fun _ i => (0 ≤ i ∧ i < len) ∧ K (.pointer (some ⟨a.block,a.off + i.toNat * n,none⟩)) σ):ki P B w0 m K ((sv (Instr.indexAt t c c2)).run P w):=by
 cases h1 with
 | slice i o len s k hi hk hr =>
  cases h2 with
  | int k x =>
   obtain ⟨hx,hK⟩:=hK
   simp only [sv,Instr.indexAt,Sem.run_bind,asIntOf,run_underlying ht,Result.andThen_ok,Sem.run_pure,if_pos hx,nv hn,iz,Sem.run_ite]
   refine .val h ?_ hK
   have:=bm.ptr (m:=m) i (o + x.toNat * n) hi
   rwa [← Nat.add_assoc] at this
  | _ => exact hK.elim
 | sliceE i o s ae =>
  cases h2 with
  | int k x => obtain ⟨hx,hK⟩:=hK; omega
  | _ => exact hK.elim
 | _ => exact hK.elim
theorem zb8c {t:TypeId} (ht:P.underlying t = some .string) {v c v2 c2:Value} (h:Rep B w0 σ m w) (h1:bm m v c) (h2:bm m v2 c2)
 (hK:b8 v fun s => ao v2 fun _ n => (0 ≤ n ∧ n < s.size) ∧ K (.int .u8 (s.data.getD n.toNat 0).toNat) σ):ki P B w0 m K ((sv (Instr.index t c c2)).run P w):=by
 cases h1 with
 | string s =>
  cases h2 with
  | int k x =>
   obtain ⟨hx,hK⟩:=hK
   have hlt:x.toNat < s.size:=by omega
   have e:(if 0 ≤ x then s[x.toNat]? else none) = some (s.data.getD x.toNat 0):=by
    rw [if_pos hx.1]
    have hd:x.toNat < s.data.size:=hlt
    rw [getElem?_pos s x.toNat hlt]
    have e2:s.data.getD x.toNat 0 = s.data[x.toNat]'hd:=by rw [Array.getD_eq_getD_getElem?,Array.getElem?_eq_getElem hd,Option.getD_some]
    rw [e2]
    rfl
   simp only [sv,Instr.index,Sem.run_bind,asIntOf,run_underlying ht,Result.andThen_ok,Sem.run_pure,e]
   exact .val h (.int _ _) hK
  | _ => exact hK.elim
 | _ => exact hK.elim
theorem zb8m {t:TypeId} {lo hi:Option Operand} (ht:P.underlying t = some .string) (hf:gg m N fr a) (hlo:zbek N lo = true) (hhi:zbek N hi = true) {v c:Value} (h:Rep B w0 σ m w) (h1:bm m v c)
 (hK:b8 v fun s => mq (q9 s.size (lo.map (evO fr)) (hi.map (evO fr))) fun lh => K (.string (s.extract lh.1 lh.2)) σ) :
 ki P B w0 m K ((sv (Instr.sliceAt t c (lo.map a.eval) (hi.map a.eval) none)).run P w):=by
 cases h1 with
 | string s =>
  simp only [b8] at hK
  cases hb:q9 s.size (lo.map (evO fr)) (hi.map (evO fr)) with
  | none => rw [hb] at hK; exact hK.elim
  | some lh =>
   rw [hb] at hK
   obtain ⟨l,hh⟩:=lh
   obtain ⟨cm,r,_,_,_⟩:=zbns (P:=P) (w:=w) hf hlo hhi hb false s.size (Nat.le_refl _)
   simp only [sv,Instr.sliceAt,Instr.slice,Sem.run_bind,run_underlying ht,Result.andThen_ok,Option.isSome_none,Bool.false_eq_true,if_false,r,Sem.run_pure,Sem.run_ite]
   exact .val h (.string _) hK
 | _ => exact hK.elim
theorem zb7w {t e:TypeId} {n:Nat} {lo hi:Option Operand} (ht:P.underlying t = some (.slice e)) (hn:szT P e = some n) (hf:gg m N fr a) (hlo:zbek N lo = true) (hhi:zbek N hi = true) {v c:Value} (h:Rep B w0 σ m w) (h1:bm m v c)
 (hK:kSl v fun a len s => s = n ∧ mq (q9 len (lo.map (evO fr)) (hi.map (evO fr))) fun lh => K (.slice (some ⟨a.block,a.off + lh.1 * n,none⟩) (lh.2 - lh.1) n) σ) :
 ki P B w0 m K ((sv (Instr.sliceAt t c (lo.map a.eval) (hi.map a.eval) none)).run P w):=by
 cases h1 with
 | slice i o len s k hi' hk hr =>
  simp only [kSl] at hK
  obtain ⟨rfl,hK⟩:=hK
  cases hb:q9 len (lo.map (evO fr)) (hi.map (evO fr)) with
  | none => rw [hb] at hK; exact hK.elim
  | some lh =>
   rw [hb] at hK
   obtain ⟨l,hh⟩:=lh
   obtain ⟨cm,r,rfl,hlh,hhn⟩:=zbns (P:=P) (w:=w) hf hlo hhi hb true k hk
   simp only [sv,Instr.sliceAt,Instr.slice,Sem.run_bind,run_underlying ht,Result.andThen_ok,r,nv hn,Sem.run_pure,Option.map_some,iz]
   refine .val h ?_ hK
   by_cases e:cm = l
   · rw [if_pos e]
     have e1:hh - l = 0:=by omega
     have e2:cm - l = 0:=by omega
     rw [e1,e2]
     exact .sliceE i (o + l * s) s _
   · rw [if_neg e]
     have:=bm.slice (m:=m) i (o + l * s) (hh - l) s (cm - l) hi' (by omega) (by
      rw [← hr,Nat.add_assoc,← Nat.add_mul]; congr 2; omega)
     rwa [← Nat.add_assoc] at this
 | sliceE i o s ae =>
  simp only [kSl] at hK
  obtain ⟨rfl,hK⟩:=hK
  cases hb:q9 0 (lo.map (evO fr)) (hi.map (evO fr)) with
  | none => rw [hb] at hK; exact hK.elim
  | some lh =>
   rw [hb] at hK
   obtain ⟨l,hh⟩:=lh
   obtain ⟨cm,r,rfl,hlh,hhn⟩:=zbns (P:=P) (w:=w) hf hlo hhi hb true 0 (Nat.le_refl _)
   have e1:hh = 0:=by omega
   have e2:l = 0:=by omega
   subst e1 e2
   simp only [sv,Instr.sliceAt,Instr.slice,Sem.run_bind,run_underlying ht,Result.andThen_ok,r,nv hn,Sem.run_pure,if_true]
   exact .val h (.sliceE i _ s ae) hK
 | _ => exact hK.elim
theorem za9d {t:TypeId} {at_:Array TypeId} (h0:at_[0]? = some t) (ht:P.underlying t = some .string) {v c:Value} {ty:TypeId} (h:Rep B w0 σ m w) (h1:bm m v c)
 (hK:b8 v fun s => K (.int .i64 s.size) σ):ki P B w0 m K ((sv (Builtin.len_ at_ ty #[c])).run P w):=by
 cases h1 with
 | string s =>
  simp only [sv,Builtin.len_,h0,List.getElem?_toArray,List.getElem?_cons_zero,Sem.run_bind,run_underlying ht,Result.andThen_ok,Sem.run_pure,goInt]
  exact .val h (.int _ _) hK
 | _ => exact hK.elim
theorem za9e {t e:TypeId} {at_:Array TypeId} (h0:at_[0]? = some t) (ht:P.underlying t = some (.slice e)) {v c:Value} {ty:TypeId} (h:Rep B w0 σ m w) (h1:bm m v c)
 (hK:zbid v fun n => K (.int .i64 n) σ):ki P B w0 m K ((sv (Builtin.len_ at_ ty #[c])).run P w):=by
 have key:∀ (ad:Option Addr) (n k:Nat),K (.int .i64 n) σ → ki P B w0 m K ((sv (Builtin.len_ at_ ty #[.slice ad n k])).run P w):=fun ad n k hK => by
  simp only [sv,Builtin.len_,h0,List.getElem?_toArray,List.getElem?_cons_zero,Sem.run_bind,run_underlying ht,Result.andThen_ok,Sem.run_pure,goInt]
  exact .val h (.int _ _) hK
 cases h1 with
 | slice i o n s k hi hk hr => exact key _ _ _ hK
 | sliceE i o s ae => exact key _ _ _ hK
 | nilS => exact key _ _ _ hK
 | _ => exact hK.elim
theorem zbci {v c v2 c2:Value} (h:Rep B w0 σ m w) (h1:bm m v c) (h2:bm m v2 c2) {at_:Array TypeId} {ty:TypeId}
 (hK:ao v fun k a => ao v2 fun _ b => K (.int k (if b < a then b else a)) σ):ki P B w0 m K ((sv (Builtin.min_ at_ ty #[c,c2])).run P w):=by
 cases h1 with
 | int k a => cases h2 with
  | int k' b =>
   simp only [sv,Builtin.min_,List.foldlM_cons,List.foldlM_nil,Builtin.min2,Sem.run_bind,Result.andThen_ok,Sem.run_pure]
   exact .val h (.int _ _) hK
  | _ => exact hK.elim
 | _ => exact hK.elim
theorem zbcj {v c v2 c2:Value} (h:Rep B w0 σ m w) (h1:bm m v c) (h2:bm m v2 c2) {at_:Array TypeId} {ty:TypeId}
 (hK:ao v fun k a => ao v2 fun _ b => K (.int k (if a < b then b else a)) σ):ki P B w0 m K ((sv (Builtin.max_ at_ ty #[c,c2])).run P w):=by
 cases h1 with
 | int k a => cases h2 with
  | int k' b =>
   simp only [sv,Builtin.max_,List.foldlM_cons,List.foldlM_nil,Builtin.max2,Sem.run_bind,Result.andThen_ok,Sem.run_pure,gt_iff_lt]
   exact .val h (.int _ _) hK
  | _ => exact hK.elim
 | _ => exact hK.elim
theorem zbor (hf:gg m N fr a) (xs:List Operand) (h:zbcc N xs = true):∀ i,i < xs.length → bm m ((xs.map (evO fr)).getD i undef) ((xs.map a.eval).getD i undef):=by
 intro i hi
 have hx:okO N xs[i] = true:=by simp [zbcc] at h; exact h _ (List.getElem_mem hi)
 simpa [List.getD,hi] using ax hf hx
theorem zb7z {f:FuncId} (hc:zbh2 P f = true) (args:Array Value) (w:World):(callFunc f args).run P w = .ok (.enter f args) w:=by
 unfold zbh2 at hc
 unfold callFunc
 cases hf:P.funcs[f]? with
 | none => simp [hf] at hc
 | some fn =>
  simp only [hf,Bool.and_eq_true,bne_iff_ne,ne_eq] at hc
  have h1 : (fn.name == "runtime.NumGoroutine") = false := by simpa using hc.1
  have h2:fn.body.isNone = false:=by cases hb:fn.body <;> simp_all
  simp only [Sem.run_bind,run_program,Result.andThen_ok,hf,h1,h2,Bool.false_eq_true,if_false,Sem.run_pure]
theorem zbuz {f:FuncId} {args:List Value} {cargs:Array Value} (h:Rep B w0 σ m w) (hs:cargs.size = args.length) (hv:∀ i,i < args.length → bm m (args.getD i undef) (cargs.getD i undef)) (hK:im P f args σ K) :
 ki P B w0 m K ((callFunc f cargs).run P w):=by
 rw [zb7z hK.1]
 exact hK.2 B w0 m w cargs h hs hv
theorem zbum {xs ys:List Value} {as bs:Array Value} (h1:as.size = xs.length) (hx:∀ i,i < xs.length → bm m (xs.getD i undef) (as.getD i undef)) (h2:bs.size = ys.length) (hy:∀ i,i < ys.length → bm m (ys.getD i undef) (bs.getD i undef)) :
 (as ++ bs).size = (xs ++ ys).length ∧ ∀ i,i < (xs ++ ys).length → bm m ((xs ++ ys).getD i undef) ((as ++ bs).getD i undef):=by
 refine ⟨by simp [h1,h2],fun i hi => ?_⟩
 by_cases hlt:i < xs.length
 · have e1:(xs ++ ys).getD i undef = xs.getD i undef:=by simp [List.getD,List.getElem?_append_left hlt]
   have e2:(as ++ bs).getD i undef = as.getD i undef:=by simp [Array.getD_eq_getD_getElem?,Array.getElem?_append_left (show i < as.size by omega)]
   rw [e1,e2]; exact hx i hlt
 · have hlt':i - xs.length < ys.length:=by simp at hi; omega
   have e1:(xs ++ ys).getD i undef = ys.getD (i - xs.length) undef:=by simp [List.getD,List.getElem?_append_right (show xs.length ≤ i by omega)]
   have e2:(as ++ bs).getD i undef = bs.getD (i - xs.length) undef:=by simp [Array.getD_eq_getD_getElem?,Array.getElem?_append_right (show as.size ≤ i by omega),h1]
   rw [e1,e2]; exact hy _ hlt'
theorem zbxu {fs:Array Field}:∀ {ps:List (Nat × Operand)} {l:List (Nat × Nat × Operand)},zbmu P fs ps = some l → l.length = ps.length ∧ ∀ (i:Nat) (p:Nat × Nat × Operand),l[i]? = some p →
 ∃ q,ps[i]? = some q ∧ ∃ f:Field,fs[q.1]? = some f ∧ p.1 = f.offset ∧ szT P f.type = some p.2.1 ∧ p.2.2 = q.2
 | [],l,h => by injection h with h; subst h; exact ⟨rfl,fun i p hp => by simp at hp⟩
 | (j,x) :: r,l,h => by
  simp only [zbmu] at h
  split at h
  · rename_i f hf
    split at h
    · rename_i n l' hn hl'
      injection h with h; subst h
      obtain ⟨e1,e2⟩:=zbxu hl'
      refine ⟨by simp [e1],fun i p hp => ?_⟩
      cases i with
      | zero => simp at hp; subst hp; exact ⟨(j,x),rfl,f,hf,rfl,hn,rfl⟩
      | succ i => exact e2 i p (by simpa using hp)
    · cases h
  · cases h
theorem zbs9 {n:Nat} {parts:Array (Nat × Operand)} {qs:List (Nat × Nat × Operand)} (hqs:qs = parts.toList.map fun p => (p.1 * n,n,p.2)) (hf:gg m N fr a) (hx:zbm1 N qs = true) {i:Nat} {p:Nat × Nat × Value} {c:Nat × Value}
 (hp:(qs.map fun p => (p.1,p.2.1,evO fr p.2.2))[i]? = some p) (hq:(parts.map fun q => (q.1,a.eval q.2)).toList[i]? = some c):p.1 = c.1 * n ∧ p.2.1 = n ∧ bm m p.2.2 c.2:=by
 subst hqs
 simp only [List.getElem?_map,Option.map_eq_some_iff] at hp
 obtain ⟨p',⟨q,hq1,rfl⟩,rfl⟩:=hp
 rw [Array.toList_map,List.getElem?_map,hq1] at hq
 simp only [Option.map_some,Option.some.injEq] at hq
 subst hq
 refine ⟨rfl,rfl,ax hf ?_⟩
 have:=List.all_eq_true.1 hx (q.1 * n,n,q.2) (List.mem_map.2 ⟨q,List.mem_of_getElem? hq1,rfl⟩)
 exact this
set_option maxHeartbeats 1000000 in
theorem zb7t {dst:Option Tmp} {ty:TypeId} {pos:String} {after:Array Edge} {guard:Option (Nat × Bool)} {x:Operand} {i:I} (hc:ff P N ⟨dst,.move x,ty,pos,after,guard⟩ = some i) (h:Rep B w0 σ m w) (hf:gg m N fr a) (hK:evI P i K fr σ):ki P B w0 m K ((execOp a.eval ⟨dst,.move x,ty,pos,after,guard⟩).run P w):=by
 simp only [ff] at hc
 split at hc
 · rename_i hx; injection hc with hc; subst hc
   exact .val h (ax hf hx) hK
 · cases hc
set_option maxHeartbeats 1000000 in
theorem zb8r {dst:Option Tmp} {ty:TypeId} {pos:String} {after:Array Edge} {guard:Option (Nat × Bool)} {x:Operand} {i:I} (hc:ff P N ⟨dst,.assign x,ty,pos,after,guard⟩ = some i) (h:Rep B w0 σ m w) (hf:gg m N fr a) (hK:evI P i K fr σ):ki P B w0 m K ((execOp a.eval ⟨dst,.assign x,ty,pos,after,guard⟩).run P w):=by
 simp only [ff] at hc
 split at hc
 · rename_i hx; injection hc with hc; subst hc
   exact .val h (ax hf hx) hK
 · cases hc
set_option maxHeartbeats 1000000 in
theorem zb7u {dst:Option Tmp} {ty:TypeId} {pos:String} {after:Array Edge} {guard:Option (Nat × Bool)} {c x y:Operand} {i:I} (hc:ff P N ⟨dst,.pick c x y,ty,pos,after,guard⟩ = some i) (h:Rep B w0 σ m w) (hf:gg m N fr a) (hK:evI P i K fr σ):ki P B w0 m K ((execOp a.eval ⟨dst,.pick c x y,ty,pos,after,guard⟩).run P w):=by
 simp only [ff] at hc
 split at hc
 · rename_i hx; injection hc with hc; subst hc
   simp only [Bool.and_eq_true] at hx
   exact za9b h (ax hf hx.1.1) (ax hf hx.1.2) (ax hf hx.2) hK
 · cases hc
set_option maxHeartbeats 1000000 in
theorem zb8d {dst:Option Tmp} {ty:TypeId} {pos:String} {after:Array Edge} {guard:Option (Nat × Bool)} {t:TypeId} {i:I} (hc:ff P N ⟨dst,.alloc t,ty,pos,after,guard⟩ = some i) (h:Rep B w0 σ m w) (hf:gg m N fr a) (hK:evI P i K fr σ):ki P B w0 m K ((execOp a.eval ⟨dst,.alloc t,ty,pos,after,guard⟩).run P w):=by
 simp only [ff] at hc
 split at hc
 · rename_i inf hinf
   split at hc
   · rename_i z hz
     split at hc
     · rename_i hcl
       injection hc with hc; subst hc
       obtain ⟨h1,h2⟩:=hK
       have:=zb3g (P:=P) (K:=K) h (zbwn (m:=m) hcl) t h1 h2
       simpa [execOp,Instr.alloc,zeroValue,run_typeInfo w hinf,hz,zbwf,evO] using this
     · cases hc
   · cases hc
 · cases hc
set_option maxHeartbeats 1000000 in
theorem zce8 {dst:Option Tmp} {ty:TypeId} {pos:String} {after:Array Edge} {guard:Option (Nat × Bool)} {t:TypeId} {x:Operand} {i:I} (hc:ff P N ⟨dst,.box t x,ty,pos,after,guard⟩ = some i) (h:Rep B w0 σ m w) (hf:gg m N fr a) (hK:evI P i K fr σ):ki P B w0 m K ((execOp a.eval ⟨dst,.box t x,ty,pos,after,guard⟩).run P w):=by
 simp only [ff] at hc
 split at hc
 · split at hc
   · rename_i hx
     injection hc with hc; subst hc
     obtain ⟨h1,h2⟩:=hK
     have:=zb3g (P:=P) (K:=K) h (ax hf hx) t h1 h2
     simpa [execOp,Instr.box,zbwf] using this
   · cases hc
 · cases hc
set_option maxHeartbeats 1000000 in
theorem zb7s {dst:Option Tmp} {ty:TypeId} {pos:String} {after:Array Edge} {guard:Option (Nat × Bool)} {t:TypeId} {x:Operand} {i:I} (hc:ff P N ⟨dst,.load t x,ty,pos,after,guard⟩ = some i) (h:Rep B w0 σ m w) (hf:gg m N fr a) (hK:evI P i K fr σ):ki P B w0 m K ((execOp a.eval ⟨dst,.load t x,ty,pos,after,guard⟩).run P w):=by
 simp only [ff] at hc
 split at hc
 · rename_i n ha hn
   split at hc
   · rename_i hx
     injection hc with hc; subst hc
     exact lw h (ax hf hx) ha hn hK
   · cases hc
 · rename_i n ha hn
   split at hc
   · rename_i hx
     injection hc with hc; subst hc
     exact lx h (ax hf hx) ha hK
   · cases hc
 · cases hc
set_option maxHeartbeats 1000000 in
theorem zb8l {dst:Option Tmp} {ty:TypeId} {pos:String} {after:Array Edge} {guard:Option (Nat × Bool)} {t:TypeId} {p x:Operand} {i:I} (hc:ff P N ⟨dst,.store t p x,ty,pos,after,guard⟩ = some i) (h:Rep B w0 σ m w) (hf:gg m N fr a) (hK:evI P i K fr σ):ki P B w0 m K ((execOp a.eval ⟨dst,.store t p x,ty,pos,after,guard⟩).run P w):=by
 simp only [ff] at hc
 split at hc
 · rename_i n hn
   split at hc
   · rename_i hx
     injection hc with hc; subst hc
     simp only [Bool.and_eq_true] at hx
     exact ls h (ax hf hx.1) (ax hf hx.2) hn hK
   · cases hc
 · cases hc
set_option maxHeartbeats 1000000 in
theorem zb9y {dst:Option Tmp} {ty:TypeId} {pos:String} {after:Array Edge} {guard:Option (Nat × Bool)} {x:Operand} {i:I} (hc:ff P N ⟨dst,.nilCheck x,ty,pos,after,guard⟩ = some i) (h:Rep B w0 σ m w) (hf:gg m N fr a) (hK:evI P i K fr σ):ki P B w0 m K ((execOp a.eval ⟨dst,.nilCheck x,ty,pos,after,guard⟩).run P w):=by
 simp only [ff] at hc
 split at hc
 · rename_i hx
   injection hc with hc; subst hc
   have h1:=ax hf hx
   simp only [evI] at hK
   simp only [execOp]
   generalize evO fr x = v at h1 hK
   generalize a.eval x = c at h1
   cases h1 with
   | ptr i o hi => exact .val h (.ptr i o hi) hK
   | func fn a b c d ha hb h1 h2 =>
    cases fn with
    | func f => exact .val h (.func _ a b c d ha hb h1 h2) hK
    | _ => exact hK.elim
   | _ => exact hK.elim
 · cases hc
theorem zb3i {K:Value → ah → Prop} {op:BinOp} {neg:Bool} (hop:op = bif neg then .neq else .eql) {t:TypeId} {fs:Array Field} (hu:P.underlying t = some (.struct fs)) {ks:List FK} (hk:zbhs P 4 t = some ks) (hg:P.eqGuardType P.depth t = false) {x y:Operand} {v1 c1 v2 c2:Value} (h:Rep B w0 σ m w) (h1:bm m v1 c1) (h2:bm m v2 c2)
 (hK:dd v1 fun p => dd v2 fun q => mq (sw ks p.toList q.toList) fun b => K (.bool (bif neg then !b else b)) σ) :
 ki P B w0 m K ((sv (do eqGuard op t x y c1 c2; binOp op t c1 c2)).run P w):=by
 cases h1 with
 | agg p c hs hr =>
  cases h2 with
  | agg q e hs2 hr2 =>
   obtain ⟨b,hb,hK⟩:=kj hK
   simp only [zbhs,hu] at hk
   split at hk
   · cases hk
   · rename_i hst
     have hf:P.fieldsOf t = fs:=by unfold Program.fieldsOf; rw [hu]
     have run:(Op.equalIn 10000 t (.agg c) (.agg e)).run P w = .ok b w:=by
      rw [run_equalIn_struct w 9999 t c e (by rw [hf]; exact hu) (by simpa using hst),hf]
      exact zby9 9998 hs hr hs2 hr2 w fs.toList 0 ks b hk (by simpa using hb)
     have gd:(eqGuard op t x y (.agg c) (.agg e)).run P w = .ok () w:=run_eqGuard_agg w op t x y c e hg
     subst hop
     cases neg
     · simp only [cond_false] at gd
       simp only [sv,Sem.run_bind,gd,Result.andThen_ok,cond_false,run_eql_struct,run,Sem.run_pure]
       exact .val h (.bool _) hK
     · simp only [cond_true] at gd
       simp only [sv,Sem.run_bind,gd,Result.andThen_ok,cond_true,run_neq_struct,run,Sem.run_pure]
       exact .val h (.bool _) hK
  | _ => exact hK.elim
 | _ => exact hK.elim
set_option maxHeartbeats 1000000 in
theorem zb8e {dst:Option Tmp} {ty:TypeId} {pos:String} {after:Array Edge} {guard:Option (Nat × Bool)} {op:BinOp} {t:TypeId} {x y:Operand} {yt:TypeId} {i:I} (hc:ff P N ⟨dst,.binOp op t x y yt,ty,pos,after,guard⟩ = some i) (h:Rep B w0 σ m w) (hf:gg m N fr a) (hK:evI P i K fr σ):ki P B w0 m K ((execOp a.eval ⟨dst,.binOp op t x y yt,ty,pos,after,guard⟩).run P w):=by
 simp only [ff] at hc
 split at hc
 · rename_i hx
   simp only [Bool.and_eq_true] at hx
   have h1:=ax hf hx.1
   have h2:=ax hf hx.2
   split at hc
   · injection hc with hc; subst hc; exact zb3f h h1 h2 hK
   · injection hc with hc; subst hc; exact zb3f h h1 h2 hK
   · rename_i hu
     split at hc
     · injection hc with hc; subst hc; exact zb3h (neg:=false) rfl hu h h1 h2 hK
     · injection hc with hc; subst hc; exact zb3h (neg:=true) rfl hu h h1 h2 hK
     · cases hc
   · rename_i e hu
     split at hc
     · injection hc with hc; subst hc; exact ol (neg:=false) (k:=.p) rfl hu ⟨_,rfl⟩ h h1 hK
     · injection hc with hc; subst hc; exact ol (neg:=true) (k:=.p) rfl hu ⟨_,rfl⟩ h h1 hK
     · cases hc
   · rename_i e hu
     split at hc
     · injection hc with hc; subst hc; exact ol (neg:=false) (k:=.s) rfl hu ⟨_,rfl⟩ h h1 hK
     · injection hc with hc; subst hc; exact ol (neg:=true) (k:=.s) rfl hu ⟨_,rfl⟩ h h1 hK
     · cases hc
   · rename_i e hu
     split at hc
     · injection hc with hc; subst hc; exact ol (neg:=false) (k:=.m) rfl hu ⟨_,_,rfl⟩ h h1 hK
     · injection hc with hc; subst hc; exact ol (neg:=true) (k:=.m) rfl hu ⟨_,_,rfl⟩ h h1 hK
     · cases hc
   · rename_i e hu
     split at hc
     · injection hc with hc; subst hc; exact ol (neg:=false) (k:=.f) rfl hu ⟨_,_,_,rfl⟩ h h1 hK
     · injection hc with hc; subst hc; exact ol (neg:=true) (k:=.f) rfl hu ⟨_,_,_,rfl⟩ h h1 hK
     · cases hc
   · rename_i fs hu
     split at hc
     · rename_i ks hk
       split at hc
       · cases hc
       · rename_i hg
         split at hc
         · injection hc with hc; subst hc; exact zb3i (neg:=false) rfl hu hk (by simpa using hg) h h1 h2 hK
         · injection hc with hc; subst hc; exact zb3i (neg:=true) rfl hu hk (by simpa using hg) h h1 h2 hK
         · cases hc
     · cases hc
   · rename_i n e hu
     have:zbhs P 4 t = none:=by simp [zbhs,hu]
     rw [this] at hc
     cases hc
   · cases hc
 · cases hc
set_option maxHeartbeats 1000000 in
theorem zb7v {dst:Option Tmp} {ty:TypeId} {pos:String} {after:Array Edge} {guard:Option (Nat × Bool)} {op:UnOp} {t:TypeId} {x:Operand} {i:I} (hc:ff P N ⟨dst,.unOp op t x,ty,pos,after,guard⟩ = some i) (h:Rep B w0 σ m w) (hf:gg m N fr a) (hK:evI P i K fr σ):ki P B w0 m K ((execOp a.eval ⟨dst,.unOp op t x,ty,pos,after,guard⟩).run P w):=by
 simp only [ff] at hc
 split at hc
 · rename_i hx; injection hc with hc; subst hc
   exact zbg0 h (ax hf hx) hK
 · cases hc
set_option maxHeartbeats 1000000 in
theorem zb9a {dst:Option Tmp} {ty:TypeId} {pos:String} {after:Array Edge} {guard:Option (Nat × Bool)} {s t:TypeId} {x:Operand} {i:I} (hc:ff P N ⟨dst,.convert s t x,ty,pos,after,guard⟩ = some i) (h:Rep B w0 σ m w) (hf:gg m N fr a) (hK:evI P i K fr σ):ki P B w0 m K ((execOp a.eval ⟨dst,.convert s t x,ty,pos,after,guard⟩).run P w):=by
 simp only [ff] at hc
 split at hc
 · rename_i hx
   split at hc
   · rename_i ks k hs ht
     injection hc with hc; subst hc
     exact za9f hs ht h (ax hf hx) hK
   · rename_i hs ht
     injection hc with hc; subst hc
     exact l4 hs ht h (ax hf hx) hK
   · rename_i e hs ht
     split at hc
     · rename_i he
       injection hc with hc; subst hc
       exact zb7x hs ht he h (ax hf hx) hK
     · cases hc
   · rename_i e hs ht
     split at hc
     · rename_i he
       injection hc with hc; subst hc
       exact lr hs ht he h (ax hf hx) hK
     · cases hc
   · cases hc
 · cases hc
set_option maxHeartbeats 1000000 in
theorem zcav {dst:Option Tmp} {ty:TypeId} {pos:String} {after:Array Edge} {guard:Option (Nat × Bool)} {t:TypeId} {x:Operand} {f:Nat} {i:I} (hc:ff P N ⟨dst,.fieldAddr t x f,ty,pos,after,guard⟩ = some i) (h:Rep B w0 σ m w) (hf:gg m N fr a) (hK:evI P i K fr σ):ki P B w0 m K ((execOp a.eval ⟨dst,.fieldAddr t x f,ty,pos,after,guard⟩).run P w):=by
 simp only [ff] at hc
 split at hc
 · rename_i hx
   split at hc
   · rename_i fields ht
     split at hc
     · rename_i fd hfd
       split at hc
       · rename_i n hn
         split at hc
         · cases hc
         · rename_i h0
           injection hc with hc; subst hc
           exact zb8p ht hfd hn h0 h (ax hf hx) hK
       · cases hc
     · cases hc
   · cases hc
 · cases hc
set_option maxHeartbeats 1000000 in
theorem zb8g {dst:Option Tmp} {ty:TypeId} {pos:String} {after:Array Edge} {guard:Option (Nat × Bool)} {t:TypeId} {x:Operand} {f:Nat} {i:I} (hc:ff P N ⟨dst,.field t x f,ty,pos,after,guard⟩ = some i) (h:Rep B w0 σ m w) (hf:gg m N fr a) (hK:evI P i K fr σ):ki P B w0 m K ((execOp a.eval ⟨dst,.field t x f,ty,pos,after,guard⟩).run P w):=by
 simp only [ff] at hc
 split at hc
 · rename_i hx
   split at hc
   · rename_i fields ht
     split at hc
     · rename_i fd hfd
       split at hc
       · rename_i n ha hn
         injection hc with hc; subst hc
         exact zce4 ht hfd ha hn h (ax hf hx) hK
       · rename_i n ha hn
         injection hc with hc; subst hc
         exact zce3 ht hfd ha h (ax hf hx) hK
       · cases hc
     · cases hc
   · cases hc
 · cases hc
set_option maxHeartbeats 1000000 in
theorem zcaw {dst:Option Tmp} {ty:TypeId} {pos:String} {after:Array Edge} {guard:Option (Nat × Bool)} {t:TypeId} {x i':Operand} {i:I} (hc:ff P N ⟨dst,.indexAddr t x i',ty,pos,after,guard⟩ = some i) (h:Rep B w0 σ m w) (hf:gg m N fr a) (hK:evI P i K fr σ):ki P B w0 m K ((execOp a.eval ⟨dst,.indexAddr t x i',ty,pos,after,guard⟩).run P w):=by
 simp only [ff] at hc
 split at hc
 · rename_i hx
   simp only [Bool.and_eq_true] at hx
   split at hc
   · rename_i len e ht
     split at hc
     · rename_i n hn
       injection hc with hc; subst hc
       exact zb8b ht hn h (ax hf hx.1) (ax hf hx.2) hK
     · cases hc
   · rename_i e ht
     split at hc
     · rename_i n hn
       injection hc with hc; subst hc
       exact zb7q ht hn h (ax hf hx.1) (ax hf hx.2) hK
     · cases hc
   · cases hc
 · cases hc
set_option maxHeartbeats 1000000 in
theorem zb8h {dst:Option Tmp} {ty:TypeId} {pos:String} {after:Array Edge} {guard:Option (Nat × Bool)} {t:TypeId} {x i':Operand} {i:I} (hc:ff P N ⟨dst,.index t x i',ty,pos,after,guard⟩ = some i) (h:Rep B w0 σ m w) (hf:gg m N fr a) (hK:evI P i K fr σ):ki P B w0 m K ((execOp a.eval ⟨dst,.index t x i',ty,pos,after,guard⟩).run P w):=by
 simp only [ff] at hc
 split at hc
 · rename_i hx
   simp only [Bool.and_eq_true] at hx
   split at hc
   · rename_i ht
     injection hc with hc; subst hc
     exact zb8c ht h (ax hf hx.1) (ax hf hx.2) hK
   · rename_i len e ht
     split at hc
     · rename_i ha hn
       injection hc with hc; subst hc
       exact zb8a ht ha hn h (ax hf hx.1) (ax hf hx.2) hK
     · rename_i n ha hn
       injection hc with hc; subst hc
       exact zb8q ht ha hn h (ax hf hx.1) (ax hf hx.2) hK
     · cases hc
   · cases hc
 · cases hc
set_option maxHeartbeats 1000000 in
theorem zb8i {dst:Option Tmp} {ty:TypeId} {pos:String} {after:Array Edge} {guard:Option (Nat × Bool)} {t:TypeId} {x:Operand} {lo hi mx:Option Operand} {i:I} (hc:ff P N ⟨dst,.slice t x lo hi mx,ty,pos,after,guard⟩ = some i) (h:Rep B w0 σ m w) (hf:gg m N fr a) (hK:evI P i K fr σ):ki P B w0 m K ((execOp a.eval ⟨dst,.slice t x lo hi mx,ty,pos,after,guard⟩).run P w):=by
 cases mx with
 | some q => simp [ff] at hc
 | none =>
  simp only [ff] at hc
  split at hc
  · rename_i hx
    simp only [Bool.and_eq_true] at hx
    split at hc
    · rename_i ht
      injection hc with hc; subst hc
      exact zb8m ht hf hx.1.2 hx.2 h (ax hf hx.1.1) hK
    · rename_i e ht
      split at hc
      · rename_i n hn
        injection hc with hc; subst hc
        exact zb7w ht hn hf hx.1.2 hx.2 h (ax hf hx.1.1) hK
      · cases hc
    · cases hc
  · cases hc
set_option maxHeartbeats 1000000 in
theorem zb8f {dst:Option Tmp} {ty:TypeId} {pos:String} {after:Array Edge} {guard:Option (Nat × Bool)} {t:TypeId} {parts:Array (Nat × Operand)} {i:I} (hc:ff P N ⟨dst,.build t parts,ty,pos,after,guard⟩ = some i) (h:Rep B w0 σ m w) (hf:gg m N fr a) (hK:evI P i K fr σ):ki P B w0 m K ((execOp a.eval ⟨dst,.build t parts,ty,pos,after,guard⟩).run P w):=by
 have hex:execOp a.eval ⟨dst,.build t parts,ty,pos,after,guard⟩ = (do pure (.value (← Instr.build t (parts.map fun q => (q.1,a.eval q.2))))):=rfl
 rw [hex]
 simp only [ff] at hc
 split at hc
 · rename_i fs z ht hz
   split at hc
   · rename_i ps hps
     split at hc
     · rename_i hx
       simp only [Bool.and_eq_true] at hx
       injection hc with hc; subst hc
       have hm:=zbxu hps
       refine l8 (ps:=ps.map fun (p:Nat × Nat × Operand) => (p.1,p.2.1,evO fr p.2.2)) (cps:=parts.map fun q => (q.1,a.eval q.2)) ht hz hx.1.2 hx.2 h (by simp [hm.1]) (fun i p c hp hq => ?_) hK
       simp only [List.getElem?_map,Option.map_eq_some_iff] at hp
       obtain ⟨p',hp',rfl⟩:=hp
       obtain ⟨q,hq1,f,hf1,hf2,hf3,hf4⟩:=hm.2 i p' hp'
       have hc2:c = (q.1,a.eval q.2):=by
        rw [Array.toList_map,List.getElem?_map,hq1] at hq
        simpa using hq.symm
       subst hc2
       refine ⟨f,hf1,hf2,hf3,?_⟩
       rw [← hf4]
       exact ax hf (by
        have:=List.all_eq_true.1 hx.1.1 p' (List.mem_of_getElem? hp')
        exact this)
     · cases hc
   · cases hc
 · rename_i len e z ht hz
   split at hc
   · rename_i n hn
     split at hc
     · rename_i hx
       simp only [Bool.and_eq_true] at hx
       injection hc with hc; subst hc
       obtain ⟨qs,hqs⟩:∃ qs:List (Nat × Nat × Operand),qs = parts.toList.map fun p => (p.1 * n,n,p.2):=⟨_,rfl⟩
       rw [← hqs] at hK hx
       have hsz:(parts.map fun q => (q.1,a.eval q.2)).size = (qs.map fun (p:Nat × Nat × Operand) => (p.1,p.2.1,evO fr p.2.2)).length:=by rw [hqs]; simp
       have hK':mq (dm z.cells.toList (qs.map fun (p:Nat × Nat × Operand) => (p.1,p.2.1,evO fr p.2.2))) fun cs => K (.agg cs.toArray) σ:=by simp only [evI] at hK; exact hK
       exact zce2 ht hn hz hx.2 h hsz (fun i p c hp hq => zbs9 hqs hf hx.1 hp hq) hK'
     · cases hc
   · cases hc
 · cases hc
set_option maxHeartbeats 1000000 in
theorem zcbm {dst:Option Tmp} {ty:TypeId} {pos:String} {after:Array Edge} {guard:Option (Nat × Bool)} {t:TypeId} {len:Nat} {parts:Array (Nat × Operand)} {i:I} (hc:ff P N ⟨dst,.buildSlice t len parts,ty,pos,after,guard⟩ = some i) (h:Rep B w0 σ m w) (hf:gg m N fr a) (hK:evI P i K fr σ):ki P B w0 m K ((execOp a.eval ⟨dst,.buildSlice t len parts,ty,pos,after,guard⟩).run P w):=by
 have hex:execOp a.eval ⟨dst,.buildSlice t len parts,ty,pos,after,guard⟩ = (do pure (.value (← Instr.buildSlice t len (parts.map fun q => (q.1,a.eval q.2))))):=rfl
 rw [hex]
 simp only [ff] at hc
 split at hc
 · rename_i e ht
   split at hc
   · rename_i n z hn hz
     split at hc
     · rename_i hx
       simp only [Bool.and_eq_true,beq_iff_eq,decide_eq_true_eq,bne_iff_ne] at hx
       injection hc with hc; subst hc
       obtain ⟨qs,hqs⟩:∃ qs:List (Nat × Nat × Operand),qs = parts.toList.map fun p => (p.1 * n,n,p.2):=⟨_,rfl⟩
       rw [← hqs] at hK hx
       have hsz:(parts.map fun q => (q.1,a.eval q.2)).size = (qs.map fun (p:Nat × Nat × Operand) => (p.1,p.2.1,evO fr p.2.2)).length:=by rw [hqs]; simp
       have hK':mq (dm (bu len z.cells.toList) (qs.map fun (p:Nat × Nat × Operand) => (p.1,p.2.1,evO fr p.2.2))) fun cs => cs.all scalar = true ∧ ∃ md,K (.slice (some ⟨σ.next,0,none⟩) len n) (σ.push (.cells e cs md)):=by simp only [evI] at hK; exact hK
       exact zb7p ht hn hz hx.1.1.1.2 hx.1.1.2 hx.1.2 hx.2 h hsz (fun i p c hp hq => zbs9 hqs hf hx.1.1.1.1 hp hq) hK'
     · cases hc
   · cases hc
 · cases hc
set_option maxHeartbeats 1000000 in
theorem zcax {dst:Option Tmp} {ty:TypeId} {pos:String} {after:Array Edge} {guard:Option (Nat × Bool)} {t:TypeId} {l c:Operand} {i:I} (hc:ff P N ⟨dst,.makeSlice t l c,ty,pos,after,guard⟩ = some i) (h:Rep B w0 σ m w) (hf:gg m N fr a) (hK:evI P i K fr σ):ki P B w0 m K ((execOp a.eval ⟨dst,.makeSlice t l c,ty,pos,after,guard⟩).run P w):=by
 simp only [ff] at hc
 split at hc
 · rename_i hx
   simp only [Bool.and_eq_true] at hx
   split at hc
   · rename_i e ht
     split at hc
     · rename_i inf z hi hz
       split at hc
       · rename_i hy
         simp only [Bool.and_eq_true,beq_iff_eq,bne_iff_ne] at hy
         injection hc with hc; subst hc
         exact zce5 ht hi hz hy.1.1.1 hy.1.1.2 hy.1.2 hy.2 h (ax hf hx.1) (ax hf hx.2) hK
       · cases hc
     · cases hc
   · cases hc
 · cases hc
set_option maxHeartbeats 1000000 in
theorem zb9c {dst:Option Tmp} {ty:TypeId} {pos:String} {after:Array Edge} {guard:Option (Nat × Bool)} {t:TypeId} {r:Option Operand} {i:I} (hc:ff P N ⟨dst,.makeMap t r,ty,pos,after,guard⟩ = some i) (h:Rep B w0 σ m w) (hf:gg m N fr a) (hK:evI P i K fr σ):ki P B w0 m K ((execOp a.eval ⟨dst,.makeMap t r,ty,pos,after,guard⟩).run P w):=by
 cases r with
 | some r => simp [ff] at hc
 | none =>
  simp only [ff] at hc
  injection hc with hc; subst hc
  exact lu h hK
set_option maxHeartbeats 1000000 in
theorem zb8s {dst:Option Tmp} {ty:TypeId} {pos:String} {after:Array Edge} {guard:Option (Nat × Bool)} {t:TypeId} {x j:Operand} {ok:Bool} {i:I} (hc:ff P N ⟨dst,.lookup t x j ok,ty,pos,after,guard⟩ = some i) (h:Rep B w0 σ m w) (hf:gg m N fr a) (hK:evI P i K fr σ):ki P B w0 m K ((execOp a.eval ⟨dst,.lookup t x j ok,ty,pos,after,guard⟩).run P w):=by
 cases ok with
 | true => simp [ff] at hc
 | false =>
  simp only [ff] at hc
  split at hc
  · rename_i hx
    simp only [Bool.and_eq_true] at hx
    split at hc
    · rename_i kt et ht
      split at hc
      · rename_i hz
        injection hc with hc; subst hc
        exact zce6 ht hz h (ax hf hx.1) (ax hf hx.2) hK
      · cases hc
    · cases hc
  · cases hc
set_option maxHeartbeats 1000000 in
theorem zcay {dst:Option Tmp} {ty:TypeId} {pos:String} {after:Array Edge} {guard:Option (Nat × Bool)} {t:TypeId} {x j v:Operand} {i:I} (hc:ff P N ⟨dst,.mapUpdate t x j v,ty,pos,after,guard⟩ = some i) (h:Rep B w0 σ m w) (hf:gg m N fr a) (hK:evI P i K fr σ):ki P B w0 m K ((execOp a.eval ⟨dst,.mapUpdate t x j v,ty,pos,after,guard⟩).run P w):=by
 simp only [ff] at hc
 split at hc
 · rename_i hx
   simp only [Bool.and_eq_true] at hx
   split at hc
   · rename_i kt et ht
     injection hc with hc; subst hc
     exact zce7 ht h (ax hf hx.1.1) (ax hf hx.1.2) (ax hf hx.2) hK
   · cases hc
 · cases hc
set_option maxHeartbeats 1000000 in
theorem zb9x {dst:Option Tmp} {ty:TypeId} {pos:String} {after:Array Edge} {guard:Option (Nat × Bool)} {fn:Fn} {first captured:Array Operand} {i:I} (hc:ff P N ⟨dst,.makeFunc fn first captured,ty,pos,after,guard⟩ = some i) (h:Rep B w0 σ m w) (hf:gg m N fr a) (hK:evI P i K fr σ):ki P B w0 m K ((execOp a.eval ⟨dst,.makeFunc fn first captured,ty,pos,after,guard⟩).run P w):=by
 simp only [ff] at hc
 split at hc
 · rename_i hx
   injection hc with hc; subst hc
   simp only [Bool.and_eq_true] at hx
   have h1:=zbor hf _ hx.1
   have h2:=zbor hf _ hx.2
   refine .val h (.func fn _ _ _ _ (by simp) (by simp) (fun i hi => ?_) (fun i hi => ?_)) hK
   · rw [bh,← ay,Array.toList_map]; exact h1 i (by simpa using hi)
   · rw [bh,← ay,Array.toList_map]; exact h2 i (by simpa using hi)
 · cases hc
set_option maxHeartbeats 1000000 in
theorem zb9b {dst:Option Tmp} {ty:TypeId} {pos:String} {after:Array Edge} {guard:Option (Nat × Bool)} {x:Operand} {i':Nat} {i:I} (hc:ff P N ⟨dst,.extract x i',ty,pos,after,guard⟩ = some i) (h:Rep B w0 σ m w) (hf:gg m N fr a) (hK:evI P i K fr σ):ki P B w0 m K ((execOp a.eval ⟨dst,.extract x i',ty,pos,after,guard⟩).run P w):=by
 simp only [ff] at hc
 split at hc
 · rename_i hx
   injection hc with hc; subst hc
   have h1:=ax hf hx
   simp only [evI] at hK
   simp only [execOp]
   generalize evO fr x = v at h1 hK
   generalize a.eval x = c at h1
   cases h1 with
   | tuple p q hs hv =>
    obtain ⟨hlt,hK⟩:=hK
    have e:q[i']? = some (q.getD i' undef):=by simp [Array.getD,← hs,hlt]
    simp only [Instr.extract,e,Sem.run_bind,Sem.run_pure,Result.andThen_ok]
    exact .val h (hv _ hlt) hK
   | _ => exact hK.elim
 · cases hc
set_option maxHeartbeats 1000000 in
theorem zb7r {dst:Option Tmp} {ty:TypeId} {pos:String} {after:Array Edge} {guard:Option (Nat × Bool)} {cl:Call} {i:I} (hc:ff P N ⟨dst,.call cl,ty,pos,after,guard⟩ = some i) (h:Rep B w0 σ m w) (hf:gg m N fr a) (hK:evI P i K fr σ):ki P B w0 m K ((execOp a.eval ⟨dst,.call cl,ty,pos,after,guard⟩).run P w):=by
 simp only [ff] at hc
 split at hc
 · rename_i hx
   have ha:=zbor hf _ hx
   have hargs:(cl.args.map a.eval).size = (cl.args.toList.map (evO fr)).length ∧ ∀ i,i < (cl.args.toList.map (evO fr)).length → bm m ((cl.args.toList.map (evO fr)).getD i undef) ((cl.args.map a.eval).getD i undef) :=
    ⟨by simp,fun i hi => by rw [← ay,Array.toList_map]; exact ha i (by simpa using hi)⟩
   obtain ⟨callee,args,argTypes⟩:=cl
   simp only at hc hx hargs ha
   split at hc
   · rename_i f _
     split at hc
     · injection hc with hc; subst hc
       simp only [execOp,resolve,Act.eval,Deferred.ofValue,Sem.run_bind,Sem.run_pure,Result.andThen_ok,invoke,Array.empty_append,Array.append_empty]
       exact zbuz h hargs.1 hargs.2 hK
     · cases hc
   · rename_i x _
     split at hc
     · rename_i hxx
       injection hc with hc; subst hc
       have h1:=ax hf hxx
       simp only [evI] at hK
       simp only [execOp,resolve]
       generalize evO fr x = v at h1 hK
       generalize a.eval x = c at h1
       cases h1 with
       | func fn p q r s hp hq h1 h2 =>
        cases fn with
        | func f =>
         simp only [Deferred.ofValue,Sem.run_bind,Sem.run_pure,Result.andThen_ok,invoke]
         obtain ⟨e1,e2⟩:=zbum (xs:=p.toList) (as:=r) (by simpa using hp.symm) (fun i hi => by rw [ay]; exact h1 i (by simpa using hi)) hargs.1 hargs.2
         obtain ⟨e3,e4⟩:=zbum (ys:=q.toList) (bs:=s) e1 e2 (by simpa using hq.symm) (fun i hi => by rw [ay]; exact h2 i (by simpa using hi))
         exact zbuz h e3 e4 hK
        | _ => exact hK.elim
       | _ => exact hK.elim
     · cases hc
   · split at hc
     · rename_i x t hax hat
       have hax':args = #[x]:=by apply Array.toList_inj.1; simpa using hax
       subst hax'
       have hxx:okO N x = true:=by simpa [zbcc] using hx
       split at hc
       · rename_i ht
         injection hc with hc; subst hc
         simp only [execOp,resolve,Sem.run_bind,Sem.run_pure,Result.andThen_ok,invoke,builtin,List.map_toArray,List.map_cons,List.map_nil]
         have q:=za9d (P:=P) (ty:=ty) hat ht h (ax hf hxx) hK
         simpa only [sv,Sem.run_bind,Sem.run_pure] using q
       · rename_i e ht
         injection hc with hc; subst hc
         simp only [execOp,resolve,Sem.run_bind,Sem.run_pure,Result.andThen_ok,invoke,builtin,List.map_toArray,List.map_cons,List.map_nil]
         have q:=za9e (P:=P) (ty:=ty) hat ht h (ax hf hxx) hK
         simpa only [sv,Sem.run_bind,Sem.run_pure] using q
       · cases hc
     · cases hc
   · split at hc
     · rename_i s x t u hax hat
       have hax':args = #[s,x]:=by apply Array.toList_inj.1; simpa using hax
       have hat':argTypes = #[t,u]:=by apply Array.toList_inj.1; simpa using hat
       subst hax' hat'
       have hxx:okO N s = true ∧ okO N x = true:=by simpa [zbcc] using hx
       split at hc
       · rename_i e e2 ht hu
         split at hc
         · rename_i inf z hi hz
           split at hc
           · rename_i hy
             simp only [Bool.and_eq_true,beq_iff_eq,bne_iff_ne] at hy
             obtain ⟨⟨rfl,h2⟩,h3⟩:=hy
             injection hc with hc; subst hc
             have q:=zce1 (P:=P) (ty:=ty) ht hi hz h2 h3 h (ax hf hxx.1) (ax hf hxx.2) hK
             simp only [execOp,resolve,Sem.run_bind,Sem.run_pure,Result.andThen_ok,invoke,builtin,List.map_toArray,List.map_cons,List.map_nil]
             simpa only [Sem.run_bind,Sem.run_pure] using q
           · cases hc
         · cases hc
       · rename_i e ht hu
         split at hc
         · rename_i inf z hi hz
           split at hc
           · rename_i hy
             simp only [Bool.and_eq_true,beq_iff_eq] at hy
             injection hc with hc; subst hc
             have q:=zb7n (P:=P) (ty:=ty) ht hu hi hz hy.1.1 hy.1.2 hy.2 h (ax hf hxx.1) (ax hf hxx.2) hK
             simp only [execOp,resolve,Sem.run_bind,Sem.run_pure,Result.andThen_ok,invoke,builtin,List.map_toArray,List.map_cons,List.map_nil]
             simpa only [Sem.run_bind,Sem.run_pure] using q
           · cases hc
         · cases hc
       · cases hc
     · cases hc
   · split at hc
     · rename_i x y hax
       have hax':args = #[x,y]:=by apply Array.toList_inj.1; simpa using hax
       subst hax'
       have hxx:okO N x = true ∧ okO N y = true:=by simpa [zbcc] using hx
       injection hc with hc; subst hc
       simp only [execOp,resolve,Sem.run_bind,Sem.run_pure,Result.andThen_ok,invoke,builtin,List.map_toArray,List.map_cons,List.map_nil]
       have q:=zbci (P:=P) (at_:=argTypes) (ty:=ty) h (ax hf hxx.1) (ax hf hxx.2) hK
       simpa only [sv,Sem.run_bind,Sem.run_pure] using q
     · cases hc
   · split at hc
     · rename_i x y hax
       have hax':args = #[x,y]:=by apply Array.toList_inj.1; simpa using hax
       subst hax'
       have hxx:okO N x = true ∧ okO N y = true:=by simpa [zbcc] using hx
       injection hc with hc; subst hc
       simp only [execOp,resolve,Sem.run_bind,Sem.run_pure,Result.andThen_ok,invoke,builtin,List.map_toArray,List.map_cons,List.map_nil]
       have q:=zbcj (P:=P) (at_:=argTypes) (ty:=ty) h (ax hf hxx.1) (ax hf hxx.2) hK
       simpa only [sv,Sem.run_bind,Sem.run_pure] using q
     · cases hc
   · cases hc
 · cases hc
theorem za9c (o:Oper) (i:I) (hc:ff P N o = some i) (h:Rep B w0 σ m w) (hf:gg m N fr a) (hK:evI P i K fr σ):ki P B w0 m K ((execOp a.eval o).run P w):=by
 obtain ⟨dst,op,ty,pos,after,guard⟩:=o
 cases op with
 | move x => exact zb7t hc h hf hK
 | assign x => exact zb8r hc h hf hK
 | pick c x y => exact zb7u hc h hf hK
 | alloc t => exact zb8d hc h hf hK
 | box t x => exact zce8 hc h hf hK
 | load t x => exact zb7s hc h hf hK
 | store t p x => exact zb8l hc h hf hK
 | nilCheck x => exact zb9y hc h hf hK
 | binOp op t x y yt => exact zb8e hc h hf hK
 | unOp op t x => exact zb7v hc h hf hK
 | convert s t x => exact zb9a hc h hf hK
 | fieldAddr t x f => exact zcav hc h hf hK
 | field t x f => exact zb8g hc h hf hK
 | indexAddr t x i => exact zcaw hc h hf hK
 | index t x i => exact zb8h hc h hf hK
 | slice t x lo hi mx => exact zb8i hc h hf hK
 | build t parts => exact zb8f hc h hf hK
 | buildSlice t len parts => exact zcbm hc h hf hK
 | makeSlice t l c => exact zcax hc h hf hK
 | makeMap t r => exact zb9c hc h hf hK
 | lookup t x j ok => exact zb8s hc h hf hK
 | mapUpdate t x j v => exact zcay hc h hf hK
 | makeFunc fn first captured => exact zb9x hc h hf hK
 | extract x i => exact zb9b hc h hf hK
 | call cl => exact zb7r hc h hf hK
 | _ => simp [ff] at hc
end
end Go.Proofs.Ytgkkienmocpnbaa.Sh
