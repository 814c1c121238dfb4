import Derived.Test.YtgkkienmocpnbaaTcT
import Derived.Test.YtgkkienmocpnbaaM13
import Derived.Lib.Builder
import Derived.Lib.UnsafeStr
import Derived.Laws.Externs
import Derived.WalkKit
set_option linter.unusedVariables false
set_option linter.unusedSimpArgs false
set_option linter.unusedSectionVars false
namespace Go.Proofs.Ytgkkienmocpnbaa
open Go Go.RowKit Sh
namespace Ic
abbrev vi:Nat:=43
abbrev zb9u:Nat:=73
abbrev zbwj:Nat:=33
abbrev zbi5:Nat:=66
theorem za8w {P:Program} {T:TypeId} {d n:Nat} (hd:P.depth = d + 1) (hc:P.cellsOf T = 2) (hs:sameLayout P P.depth T T = true) (hn:2 ≤ n):liesAt P P.depth T (n / P.cellsOf T) 0 T 1 = true:=by
 have h1:decide (0 + 1 ≤ n / 2) = true:=decide_eq_true (by omega)
 rw [hd] at hs ⊢
 unfold liesAt
 rw [hd]
 unfold rowAt
 simp only [hc,hs]
 simp [h1]
set_option maxHeartbeats 1000000 in
set_option maxRecDepth 100000 in
theorem za9v (b:Nat) (w:World) (h0:w.cell? ⟨b,0,none⟩ = some (.pointer (some ⟨b,0,none⟩))) :
 Calls Try.prog be #[.pointer (some ⟨b,0,none⟩)] w fun e w' => e = .returned (.tuple #[]) ∧ w' = w:=by
 obtain ⟨j,hj,hjs⟩:=Option.map_eq_some_iff.1 (show (Try.prog.info? aw).map (·.size) = some 2 by kernel_rfl)
 have hp:Try.prog.underlying vi = some (.pointer aw):=by kernel_rfl
 go_enter Try.func37,Try.ntmps37
 go_wp2
 rw [Lib.run_neq_ptr_same w _ hp hj]
 go_wp2
 go_end0
 exact ⟨rfl,rfl⟩
set_option maxHeartbeats 1000000 in
set_option maxRecDepth 100000 in
theorem m6 (b n:Nat) (w:World) (h0:w.cell? ⟨b,0,none⟩ = some (.pointer none)) (hn:2 ≤ n) (hsh:w.shape? b = some (aw,n)) (hfz:w.frozen? ⟨b,0,none⟩ = false) :
 Calls Try.prog be #[.pointer (some ⟨b,0,none⟩)] w fun e w' => e = .returned (.tuple #[]) ∧ w' = w.setCell ⟨b,0,none⟩ (.pointer (some ⟨b,0,none⟩)):=by
 obtain ⟨j,hj,hjs⟩:=Option.map_eq_some_iff.1 (show (Try.prog.info? aw).map (·.size) = some 2 by kernel_rfl)
 have hp:Try.prog.underlying vi = some (.pointer aw):=by kernel_rfl
 have hu:Try.prog.underlying zb9u = some .unsafePointer:=by kernel_rfl
 go_enter Try.func37,Try.ntmps37
 go_wp2
 rw [Lib.run_to_unsafe w ⟨b,0,none⟩ hp hu hj (by rw [hjs]; decide) hsh (by show 0 < n; omega)]
 simp only [Result.andThen]
 rw [Oper.upon_value]
 go_wp2
 rw [run_callFunc_extern Try.func45 (by kernel_rfl) (by kernel_rfl) (by kernel_rfl) (e:=Extern.AbiNoEscape.same) (by kernel_rfl)]
 rw [Lib.run_noEscape]
 simp only [Result.andThen]
 rw [Oper.upon_value]
 go_wp2
 rw [Lib.run_from_unsafe w ⟨b,0,none⟩ hu hp hj hsh (za8w (d:=Try.prog.depth - 1) (by kernel_rfl) (by kernel_rfl) (by kernel_rfl) hn)]
 simp only [Result.andThen]
 rw [Oper.upon_value]
 go_wp2
 go_end0
 exact ⟨rfl,rfl⟩
section
variable {e:Env} {τ:TH} {σ:ah}
theorem k7 (h:HR e τ σ) (hnt:∀ g i,e.who g ≠ .tok i):St ⟨σ,e,τ.lock⟩ e [] [] τ (fun _ => undef) σ where
 nx:=Nat.le_refl _
 keep:=fun _ _ _ => rfl
 fro:=.refl _
 n0:=Nat.le_refl _
 b0:=fun _ _ => rfl
 n:=h.n
 lo:=rfl
 mine:=fun g hg => by
  cases hq:e.who g with
  | none => rw [hq] at hg; exact hg.elim
  | obj id => rw [hq] at hg; exact .inr ⟨id,hg,.inl hq⟩
  | cell id j => rw [hq] at hg; exact .inr ⟨id,hg,.inr ⟨j,hq⟩⟩
  | tok i => exact absurd hq (hnt g i)
 wlt:=h.wlt
 wid:=h.wid
 old:=fun _ _ _ => rfl
 ob:=h.ob
 fm:=fun t => .undef _
theorem zbhv {B:Bs} {fr:TF} {tk:TK} {fr':Fr} (h:St B e fr tk τ fr' σ) (hnt:∀ g i,e.who g ≠ .tok i):Aft B e τ σ where
 hr:=⟨h.n,h.wlt,h.wid,h.ob⟩
 nx:=h.nx
 keep:=h.keep
 fro:=h.fro
 n0:=h.n0
 b0:=h.b0
 old:=h.old
 notok:=hnt
 lock:=h.lo
end
theorem zb8t {w:World} {a:Addr} {n b:Nat} (h:b ≠ a.block):(w.freeze a n).heap[b]? = w.heap[b]?:=by
 unfold World.freeze
 split
 · rfl
 · simp only [Array.getElem?_modify]
   rw [if_neg (Ne.symm h)]
theorem zb9z {w:World} {a:Addr} {n:Nat} {c:Array Value} {t:TypeId} {fz:Nat × Nat} (h:w.heap[a.block]? = some (.cells c t fz)):∃ fz',(w.freeze a n).heap[a.block]? = some (.cells c t fz'):=by
 unfold World.freeze
 split
 · exact ⟨fz,h⟩
 · refine ⟨if fz.1 == fz.2 then (a.off,a.off + n) else (min fz.1 a.off,max fz.2 (a.off + n)),?_⟩
   simp only [Array.getElem?_modify,if_true,h,Option.map_some]
theorem j4 {B:Nat} {w0:World} {σ:ah} {m:Mp} {w:World} {t:TypeId} {i:Nat} {cs:List Value} {n:Nat} (h:Rep B w0 σ m w) (hr:σ.apRow t i = some cs):Rep B w0 (σ.set i (.cells t cs .ro)) m (w.freeze ⟨(m.l i).b,0,none⟩ n):=by
 obtain ⟨hi,hq,_⟩:=zbmb h hr
 have h2:=h.toRo hr
 have hB:B ≤ (m.l i).b:=by
  have q:=h.blk i hi
  rw [hq] at q
  obtain ⟨c,t',fz,_,_,h3⟩:=q
  exact (h3 (by simp)).1
 refine ⟨h2.next,Lib.below_freeze h2.below hB n,h2.base,fun j hj => ?_,h2.apart⟩
 have q:=h2.blk j hj
 by_cases hb:(m.l j).b = (m.l i).b
 · have hro:∃ t' cs',(σ.set i (.cells t cs .ro)).blk j = .cells t' cs' .ro ∨ (σ.set i (.cells t cs .ro)).blk j = .dead:=by
    by_cases hji:j = i
    · exact ⟨t,cs,.inl (by simp [ah.set,hji])⟩
    · have hsb:(σ.set i (.cells t cs .ro)).blk j = σ.blk j:=by simp [ah.set,hji]
      cases hlv:(σ.blk j).live with
      | false =>
       refine ⟨t,cs,.inr ?_⟩
       rw [hsb]
       cases hqj:σ.blk j <;> rw [hqj] at hlv <;> first | rfl | cases hlv
      | true =>
       rcases h.apart i j hi hj (Ne.symm hji) (by rw [hq]; rfl) hlv with h5 | h5
       · exact absurd hb.symm h5
       · obtain ⟨_,_,t2,c2,_,e2,_⟩:=n8 h5
         exact ⟨t2,c2,.inl (by rw [hsb]; exact e2)⟩
   obtain ⟨t',cs',hro | hro⟩:=hro
   · rw [hro] at q ⊢
     obtain ⟨c,t2,fz,g1,g2,g3⟩:=q
     obtain ⟨fz',g4⟩:=zb9z (w:=w) (a:=⟨(m.l i).b,0,none⟩) (n:=n) (by rw [hb] at g1; exact g1)
     exact ⟨c,t2,fz',by rw [hb]; exact g4,g2,fun e => (e rfl).elim⟩
   · rw [hro]; trivial
 · exact q.world (zb8t hb)
theorem zb3e {c:Array Value} (h:0 < c.size):c[0]? = some (c.getD 0 undef):=by simp [Array.getD,h]
theorem za9g {c:Array Value} (h:1 < c.size):c[1]? = some (c.getD 1 undef):=by simp [Array.getD,h]
def zbh1 (args:List TV) (τ:TH):Option (TV × TH) :=
 match args with
 | [.ptr id off] => (τ.at id).bind fun b =>
  if off = 0 ∧ b.t = aw then
   match b.cs with
   | [.nilP,c] => if τ.lock ≤ id then some (.tup [],τ.put id ⟨b.t,[.ptr id 0,c]⟩) else none
   | [.ptr id' o,c] => if id' = id ∧ o = 0 then some (.tup [],τ) else none
   | _ => none
  else none
 | _ => none
theorem zb1h {ws:List Value} {σ:ah} {e:Env} {id off:Nat} (hlen:[TV.ptr id off].length = ws.length) (h:∀ i,i < [TV.ptr id off].length → TR σ e [] ([TV.ptr id off].getD i .undef) (ws.getD i undef)):id < e.n ∧ ws = [.pointer (some ⟨e.b id,off,none⟩)]:=by
 obtain ⟨w0,rfl⟩:∃ w0,ws = [w0]:=List.length_eq_one_iff.1 (by simpa using hlen.symm)
 have h0:=h 0 (by simp)
 simp only [List.getD_cons_zero] at h0
 obtain ⟨h1,h2⟩:=n6 h0
 exact ⟨h1,by rw [h2]⟩
theorem mm:∀ args τ r τ',zbh1 args τ = some (r,τ') → zbbc Try.prog be args τ r τ':=by
 intro args τ r τ' h σ e ws hr hnt hlen hargs
 unfold zbh1 at h
 split at h
 rotate_left
 · cases h
 rename_i id off
 obtain ⟨b,hb,h'⟩:=Option.bind_eq_some_iff.1 h
 clear h
 split at h'
 rotate_left
 · cases h'
 rename_i hc
 obtain ⟨rfl,ht⟩:=hc
 have h:=h'
 clear h'
 obtain ⟨hid,rfl⟩:=zb1h hlen hargs
 have hidn:id < τ.next:=by rw [← hr.n]; exact hid
 obtain ⟨b',hb',ho⟩:=hr.ob id hidn
 rw [hb] at hb'; injection hb' with hb'; subst hb'
 refine ⟨by kernel_rfl,fun B w0 m w cargs hrep hsz hvr => ?_⟩
 obtain ⟨a0,rfl⟩:∃ a0,cargs = #[a0]:=by
  have:cargs.size = 1:=hsz
  obtain ⟨l⟩:=cargs
  match l,this with
  | [x],_ => exact ⟨x,rfl⟩
 have hv:=hvr 0 (by simp)
 obtain ⟨_,hbn,hv⟩:=zbni hv
 have hv:a0 = .pointer (some ⟨(m.l (e.b id)).b,(m.l (e.b id)).base + 0,none⟩):=hv
 have two:∀ c0 c1,b.cs = [c0,c1] → ∃ ds cc fz,e.who (e.b id) = .obj id ∧ σ.at (e.b id) = .cells b.t ds .rw ∧ ds.length = 2 ∧ CR σ e id 0 c0 (ds.getD 0 undef) ∧ CR σ e id 1 c1 (ds.getD 1 undef) ∧ scalar (ds.getD 0 undef) = true ∧
  (m.l (e.b id)).base = 0 ∧ w.heap[(m.l (e.b id)).b]? = some (.cells cc b.t fz) ∧ 2 ≤ cc.size ∧ bm m (ds.getD 0 undef) (cc.getD 0 undef) ∧ bm m (ds.getD 1 undef) (cc.getD 1 undef) ∧ ∀ o,o < cc.size → ¬ (fz.1 ≤ o ∧ o < fz.2):=fun c0 c1 hcs => by
  obtain ⟨hwho,ds,h1,h2,h3⟩:=ho.live (by rw [hcs]; simp)
  rw [hcs] at h2 h3
  have hlt:e.b id < σ.next:=ah.lt_of_at (by rw [h1]; rfl)
  have q:=hrep.blk (e.b id) hlt
  rw [← ah.at_lt hlt,h1] at q
  obtain ⟨cc,t',fz,g1,g2,g3⟩:=q
  obtain ⟨g4,g5,g6,g7,g8⟩:=g3 (by simp)
  have h2:ds.length = 2:=h2
  have k0:=g2 0 (by omega)
  have k1:=g2 1 (by omega)
  rw [g6] at k0 k1
  exact ⟨ds,cc,fz,hwho,h1,h2,(h3 0 (by omega)).1,(h3 1 (by omega)).1,(h3 0 (by omega)).2,g6,by rw [g1,g5],by have:=k1.1; omega,k0.2.1,k1.2.1,g8⟩
 split at h
 · -- a fresh one
   rename_i c hcs
   split at h
   rotate_left
   · cases h
   rename_i hlo
   simp only [Option.some.injEq,Prod.mk.injEq] at h
   obtain ⟨rfl,rfl⟩:=h
   obtain ⟨ds,cc,fz,hwho,h1,h2,cr0,cr1,sc0,hbase,g1,g2,v0,v1,g8⟩:=two _ _ hcs
   rw [hbase] at hv
   subst hv
   have e0:ds.getD 0 undef = .pointer none:=by
    have:=cr0.1
    exact zblo this
   rw [e0] at v0
   have e1:=w7 v0
   have hcell:w.cell? ⟨(m.l (e.b id)).b,0,none⟩ = some (.pointer none):=by
    have h5:=zb3e (c:=cc) (by omega)
    simp only [World.cell?,g1]
    rw [h5,e1]
    rfl
   refine (m6 (m.l (e.b id)).b cc.size w hcell g2 (by simp [World.shape?,g1,ht]) ?_).mono ?_
   · have:=g8 0 (by omega)
     simp only [World.frozen?,g1]
     simpa using this
   rintro x w' ⟨rfl,rfl⟩
   obtain ⟨σ2,s1,s2,s3⟩:=(k7 hr hnt).storeOb (tk':=[]) (who:=fun g => match e.who g with | .cell i j => if i = id ∧ j = 0 then .none else .cell i j | o => o) (vs:=[.ptr id 0]) (ws:=[.pointer (some ⟨e.b id,0,none⟩)]) (off:=0) hb hidn (by simp) rfl (by rw [hcs]; simp)
    (fun g i hg => by simp only [hg]) (fun g i j hg hn => by simp only [hg]; rw [if_neg]; rintro ⟨rfl,rfl⟩; rcases hn with hn | hn <;> simp at hn) (fun g hg hq => by simp only [hq] at hg; exact hg rfl)
    (fun g hg => by
     cases hq:e.who g with
     | cell i j =>
      simp only [hq] at hg
      split at hg
      · exact hg.elim
      · exact hg
     | _ => simp only [hq] at hg; exact hg)
    (fun g hg => by
     cases hq:e.who g with
     | cell i j =>
      simp only
      rw [if_neg]
      rintro ⟨rfl,rfl⟩
      rw [hq] at hg
      exact hg hlo
     | _ => rfl)
    (fun g i hg => by
     refine hr.wid g i ?_
     cases hq:e.who g with
     | cell i' j' =>
      simp only [hq] at hg
      split at hg
      · rcases hg with hg | ⟨_,hg⟩ <;> cases hg
      · exact hg
     | _ => simp only [hq] at hg; exact hg)
    hlo (fun i hi => absurd hi (Nat.not_lt_zero _)) (fun i n' t' hi => absurd hi (Nat.not_lt_zero _)) (fun σ' hk hat j hj => by
     obtain rfl:j = 0:=by simpa using hj
     exact ⟨.ptr id 0 hid,by simp [TV.under],rfl⟩)
   have hst:=hrep.store1 Try.prog (i:=e.b id) (o:=0) (v:=.pointer (some ⟨e.b id,0,none⟩)) (c:=.pointer (some ⟨(m.l (e.b id)).b,0,none⟩)) (σ':=σ2) (by rw [← hrep.next]; exact hbn) (by
    simpa [ah.store] using s1) (by
     have:=bm.ptr (m:=m) (e.b id) 0 hbn
     rw [hbase] at this
     exact this)
   rw [hbase] at hst
   rw [hcs] at s2
   refine ⟨.tuple #[],.tuple #[],m,σ2,rfl,.refl _,.undef _,hst.2,_,zbhv s2 ?_,.tup [] #[] rfl (fun i hi => absurd hi (Nat.not_lt_zero _))⟩
   · intro g i hg
     cases hq:e.who g with
     | cell i' j' =>
      simp only [hq] at hg
      split at hg <;> cases hg
     | tok k => exact hnt g k hq
     | _ => simp only [hq] at hg; cases hg
 · -- one in use
   rename_i id' o c hcs
   split at h
   rotate_left
   · cases h
   rename_i hcc
   obtain ⟨rfl,rfl⟩:=hcc
   simp only [Option.some.injEq,Prod.mk.injEq] at h
   obtain ⟨rfl,rfl⟩:=h
   obtain ⟨ds,cc,fz,hwho,h1,h2,cr0,cr1,sc0,hbase,g1,g2,v0,v1,g8⟩:=two _ _ hcs
   rw [hbase] at hv
   subst hv
   have e0:ds.getD 0 undef = .pointer (some ⟨e.b id',0,none⟩):=(n6 cr0.1).2
   rw [e0] at v0
   obtain ⟨_,_,e1⟩:=zbni v0
   rw [hbase] at e1
   have hcell:w.cell? ⟨(m.l (e.b id')).b,0,none⟩ = some (.pointer (some ⟨(m.l (e.b id')).b,0,none⟩)):=by
    have h5:=zb3e (c:=cc) (by omega)
    simp only [World.cell?,g1]
    rw [h5,e1]
    rfl
   refine (za9v (m.l (e.b id')).b w hcell).mono ?_
   rintro x w' ⟨rfl,rfl⟩
   exact ⟨.tuple #[],.tuple #[],m,σ,rfl,.refl _,.undef _,hrep,e,zbhv (k7 hr hnt) hnt,.tup [] #[] rfl (fun i hi => absurd hi (Nat.not_lt_zero _))⟩
 · cases h
set_option maxHeartbeats 2000000 in
set_option maxRecDepth 100000 in
theorem zbbt (b g cap cells:Nat) (l:List UInt8) (w:World) (h1:w.cell? ⟨b,1,none⟩ = some (.slice (some ⟨g,0,none⟩) l.length cap)) (h0:l ≠ []) (hc:l.length ≤ cap) (hm:l.length ≤ maxLen) (hsh:w.shape? g = some (a9,cells)) (hcs:l.length ≤ cells)
 (hcell:∀ j x,l[j]? = some x → w.cell? ((⟨g,0,none⟩:Addr).add j) = some (.int .u8 x.toNat)) :
 Calls Try.prog bf #[.pointer (some ⟨b,0,none⟩)] w fun e w' => e = .returned (.string ⟨l.toArray⟩) ∧ w' = w.drew.freeze ⟨g,0,none⟩ l.length:=by
 have hl0:l.length ≠ 0:=by simpa using h0
 have c1:w.drew.cell? ⟨b,1,none⟩ = some (.slice (some ⟨g,0,none⟩) l.length cap):=h1
 have hSD:(Builtin.unsafeSliceData_ #[zbwj] zbi5 #[.slice (some ⟨g,0,none⟩) l.length cap]).run Try.prog w.drew = .ok (.pointer (some ⟨g,0,none⟩)) w.drew :=
  Lib.run_unsafeSliceData_row _ _ _ _ _ _ (by omega)
 have hUS:(Builtin.unsafeString_ #[zbi5,3] 9 #[.pointer (some ⟨g,0,none⟩),.int .i64 l.length]).run Try.prog w.drew = .ok (.string ⟨l.toArray⟩) (w.drew.freeze ⟨g,0,none⟩ l.length) :=
  Lib.run_unsafeString_row w.drew zbi5 3 9 a9 (by kernel_rfl) (by kernel_rfl) g cells hsh l h0 hcs (by unfold maxLen at hm; omega) hcell
 go_enter Try.func26,Try.ntmps26
 go_wp2
 go_region
 all_goals (go_wp2; go_ret; exact ⟨rfl,rfl⟩)
set_option maxHeartbeats 2000000 in
set_option maxRecDepth 100000 in
theorem zae3 (b:Nat) (w:World) (h1:w.cell? ⟨b,1,none⟩ = some (.slice none 0 0)) :
 Calls Try.prog bf #[.pointer (some ⟨b,0,none⟩)] w fun e w' => e = .returned (.string ⟨#[]⟩) ∧ w' = w.drew:=by
 have hUS:∀ (W:World) (q:Option Addr),(Builtin.unsafeString_ #[zbi5,3] 9 #[.pointer q,.int .i64 0]).run Try.prog W = .ok (.string .empty) W:=fun W q => Lib.run_unsafeString_none W _ _ _ q
 have c1:w.drew.cell? ⟨b,1,none⟩ = some (.slice none 0 0):=h1
 have hSD:(Builtin.unsafeSliceData_ #[zbwj] zbi5 #[.slice none 0 0]).run Try.prog w.drew = .ok (.pointer none) w.drew:=rfl
 go_enter Try.func26,Try.ntmps26
 go_wp2
 go_region
 all_goals (go_wp2; go_ret; exact ⟨rfl,rfl⟩)
theorem gp {m:Mp} {g o n s:Nat} {c:Value} (h:bm m (.slice (some ⟨g,o,none⟩) n s) c) (hn:n ≠ 0):∃ k,c = .slice (some ⟨(m.l g).b,(m.l g).base + o,none⟩) n k ∧ n ≤ k ∧ o + k * s = (m.l g).room:=by
 cases h with
 | slice i o n s k h hk hr => exact ⟨k,rfl,hk,hr⟩
 | sliceE => exact absurd rfl hn
def okB:TV → Bool
 | .int .u8 n => decide (0 ≤ n) && decide (n < 256)
 | _ => false
def zbf0 (args:List TV) (τ:TH):Option (TV × TH) :=
 match args with
 | [.ptr id off] => (τ.at id).bind fun b =>
  if off = 0 ∧ b.t = aw then
   match b.cs with
   | [c0,.slz] => some (.str ⟨#[]⟩,τ)
   | [c0,.slo t l] => if t = a9 ∧ τ.lock ≤ id ∧ l.length ≤ maxLen ∧ l.all okB = true then (if l = [] then some (.str ⟨#[]⟩,τ) else (mo l).map fun bs => (.str ⟨bs.toArray⟩,τ.put id ⟨b.t,[c0,.sl l]⟩)) else none
   | _ => none
  else none
 | _ => none
theorem zbvn:∀ {l:List TV} {bs:List UInt8},mo l = some bs → l.length = bs.length ∧ ∀ j x,bs[j]? = some x → ∃ n:Int,l.getD j .undef = .int .u8 n ∧ UInt8.ofNat n.toNat = x
 | [],bs,h => by
  injection h with h; subst h
  exact ⟨rfl,fun j x hx => by simp at hx⟩
 | v :: r,bs,h => by
  cases v with
  | int k n =>
   cases k with
   | u8 =>
    obtain ⟨bs',hb,rfl⟩:=Option.map_eq_some_iff.1 h
    obtain ⟨i1,i2⟩:=zbvn hb
    refine ⟨by simp [i1],fun j x hx => ?_⟩
    cases j with
    | zero => simp only [List.getElem?_cons_zero,Option.some.injEq] at hx; exact ⟨n,rfl,hx⟩
    | succ j => rw [List.getElem?_cons_succ] at hx; simpa using i2 j x hx
   | _ => cases h
  | _ => cases h
theorem ph:∀ args τ r τ',zbf0 args τ = some (r,τ') → zbbc Try.prog bf args τ r τ':=by
 intro args τ r τ' h σ e ws hr hnt hlen hargs
 unfold zbf0 at h
 split at h
 rotate_left
 · cases h
 rename_i id off
 obtain ⟨b,hb,h'⟩:=Option.bind_eq_some_iff.1 h
 clear h
 split at h'
 rotate_left
 · cases h'
 rename_i hc
 obtain ⟨rfl,ht⟩:=hc
 have h:=h'
 clear h'
 obtain ⟨hid,rfl⟩:=zb1h hlen hargs
 have hidn:id < τ.next:=by rw [← hr.n]; exact hid
 obtain ⟨b',hb',ho⟩:=hr.ob id hidn
 rw [hb] at hb'; injection hb' with hb'; subst hb'
 refine ⟨by kernel_rfl,fun B w0 m w cargs hrep hsz hvr => ?_⟩
 obtain ⟨a0,rfl⟩:∃ a0,cargs = #[a0]:=by
  have:cargs.size = 1:=hsz
  obtain ⟨l⟩:=cargs
  match l,this with
  | [x],_ => exact ⟨x,rfl⟩
 have hv:=hvr 0 (by simp)
 obtain ⟨_,hbn,hv⟩:=zbni hv
 have hv:a0 = .pointer (some ⟨(m.l (e.b id)).b,(m.l (e.b id)).base + 0,none⟩):=hv
 have two:∀ c0 c1,b.cs = [c0,c1] → ∃ ds cc fz,e.who (e.b id) = .obj id ∧ σ.at (e.b id) = .cells b.t ds .rw ∧ ds.length = 2 ∧ CR σ e id 1 c1 (ds.getD 1 undef) ∧
  (m.l (e.b id)).base = 0 ∧ w.heap[(m.l (e.b id)).b]? = some (.cells cc b.t fz) ∧ 2 ≤ cc.size ∧ bm m (ds.getD 1 undef) (cc.getD 1 undef):=fun c0 c1 hcs => by
  obtain ⟨hwho,ds,h1,h2,h3⟩:=ho.live (by rw [hcs]; simp)
  rw [hcs] at h2 h3
  have hlt:e.b id < σ.next:=ah.lt_of_at (by rw [h1]; rfl)
  have q:=hrep.blk (e.b id) hlt
  rw [← ah.at_lt hlt,h1] at q
  obtain ⟨cc,t',fz,g1,g2,g3⟩:=q
  obtain ⟨g4,g5,g6,g7,g8⟩:=g3 (by simp)
  have h2:ds.length = 2:=h2
  have k1:=g2 1 (by omega)
  rw [g6] at k1
  exact ⟨ds,cc,fz,hwho,h1,h2,(h3 1 (by omega)).1,g6,by rw [g1,g5],by have:=k1.1; omega,k1.2.1⟩
 have empty:∀ ds cc fz,(m.l (e.b id)).base = 0 → w.heap[(m.l (e.b id)).b]? = some (.cells cc b.t fz) → 2 ≤ cc.size → bm m (ds:List Value)[1]! (cc.getD 1 undef) → ds[1]! = .slice none 0 0 →
  Calls Try.prog bf #[a0] w fun ex w' => ∃ v c m' σ',ex = .returned c ∧ m.le m' ∧ bm m' v c ∧ Rep B w0 σ' m' w' ∧ ∃ e',Aft ⟨σ,e,τ.lock⟩ e' τ σ' ∧ TR σ' e' [] (.str ⟨#[]⟩) v:=fun ds cc fz hbase g1 g2 v1 e1 => by
  rw [hbase] at hv
  subst hv
  rw [e1] at v1
  obtain ⟨_,_,e2⟩:=ww v1
  have h5:=za9g (c:=cc) (by omega)
  have hcell:w.cell? ⟨(m.l (e.b id)).b,1,none⟩ = some (.slice none 0 0):=by
   simp only [World.cell?,g1]
   rw [h5,e2]
   rfl
  refine (zae3 (m.l (e.b id)).b w hcell).mono ?_
  rintro x w' ⟨rfl,rfl⟩
  exact ⟨.string ⟨#[]⟩,.string ⟨#[]⟩,m,σ,rfl,.refl _,.string _,hrep.drew,e,zbhv (k7 hr hnt) hnt,.pr (.str _)⟩
 split at h
 · -- nil
   rename_i c0 hcs
   simp only [Option.some.injEq,Prod.mk.injEq] at h
   obtain ⟨rfl,rfl⟩:=h
   obtain ⟨ds,cc,fz,hwho,h1,h2,cr1,hbase,g1,g2,v1⟩:=two _ _ hcs
   have e1:ds.getD 1 undef = .slice none 0 0:=zbfz cr1.1
   have e3:ds[1]! = ds.getD 1 undef:=by simp [List.getElem!_eq_getElem?_getD,List.getD_eq_getElem?_getD,h2]
   exact empty ds cc fz hbase g1 g2 (by rw [e3]; exact v1) (by rw [e3]; exact e1)
 · rename_i c0 t l hcs
   split at h
   rotate_left
   · cases h
   rename_i hq
   obtain ⟨rfl,hlo,hmx,hok⟩:=hq
   obtain ⟨ds,cc,fz,hwho,h1,h2,cr1,hbase,g1,g2,v1⟩:=two _ _ hcs
   split at h
   · -- of no bytes
     rename_i hl0
     subst hl0
     simp only [Option.some.injEq,Prod.mk.injEq] at h
     obtain ⟨rfl,rfl⟩:=h
     have e1:ds.getD 1 undef = .slice none 0 0:=by
      rcases cr1.2 with ⟨_,q⟩ | ⟨q,_⟩
      · exact q
      · exact absurd rfl q
     have e3:ds[1]! = ds.getD 1 undef:=by simp [List.getElem!_eq_getElem?_getD,List.getD_eq_getElem?_getD,h2]
     exact empty ds cc fz hbase g1 g2 (by rw [e3]; exact v1) (by rw [e3]; exact e1)
   · rename_i hl0
     obtain ⟨bs,hbs,hh⟩:=Option.map_eq_some_iff.1 h
     simp only [Prod.mk.injEq] at hh
     obtain ⟨rfl,rfl⟩:=hh
     obtain ⟨tl,tg⟩:=zbvn hbs
     rw [hbase] at hv
     subst hv
     -- the cell's row
     obtain ⟨w1,e1,q1,q2,q3,q4⟩:=(k7 hr hnt).take (off:=1) (t:=a9) (l:=l) hb hidn (by rw [hcs]; rfl) hlo
     have hst:St ⟨σ,e,τ.lock⟩ e1 [] [] (τ.put id ⟨b.t,b.cs.set 1 (.sl l)⟩) (fun _ => undef) σ:=⟨q2.nx,q2.keep,q2.fro,q2.n0,q2.b0,q2.n,q2.lo,q2.mine,q2.wlt,q2.wid,q2.old,q2.ob,fun t => .undef _⟩
     rw [hcs] at hst
     obtain ⟨hp,_,_,hlk⟩:=zbp0 q3 (n:=l.length) (t:=a9) rfl
     have hlk:=hlk rfl
     obtain hz | ⟨_,g,s,cs,rfl,k3,k4,k5⟩:=hlk
     · exact absurd hz.1 hl0
     -- its bytes
     obtain ⟨g',o',s',t',cs',md,p0,p1,p2,p3,p4,p5,p6⟩:=qn hl0 hp
     injection p6 with p6 _ p7
     injection p6 with p6
     injection p6 with p6 p8
     subst p6 p7 p8
     rw [k4] at p1
     injection p1 with p1 p1' p1''
     subst p1 p1' p1''
     have hlen0:0 < l.length:=by cases l with | nil => exact absurd rfl hl0 | cons => simp
     have hb0:0 < bs.length:=by omega
     obtain ⟨n0,hn0,_⟩:=tg 0 bs[0] (List.getElem?_eq_getElem hb0)
     have hs1:s = 1:=by
      have:=p4 0 hlen0
      rw [hn0] at this
      exact this.symm
     subst hs1
     have ecell:ds.getD 1 undef = .slice (some ⟨g,0,none⟩) l.length 1:=by
      have q1':σ.load (e.b id) 1 = some (.slice (some ⟨g,0,none⟩) l.length 1):=q1
      unfold ah.load at q1'
      rw [h1] at q1'
      simp only at q1'
      rw [List.getD_eq_getElem?_getD,q1']; rfl
     rw [ecell] at v1
     have hgl:g < σ.next:=ah.lt_of_at (by rw [k4]; rfl)
     have hap:σ.apRow a9 g = some cs:=by unfold ah.apRow; rw [k4]; simp
     obtain ⟨_,hqb,cg,fzg,r1,r2,r3,r4,r5,r6⟩:=zbmb hrep hap
     have v2:=gp v1 (by omega)
     obtain ⟨k,e2,hk1,hk2⟩:=v2
     rw [r3] at e2
     have h5:=za9g (c:=cc) (by omega)
     have hcell:w.cell? ⟨(m.l (e.b id)).b,1,none⟩ = some (.slice (some ⟨(m.l g).b,0,none⟩) bs.length k):=by
      simp only [World.cell?,g1]
      rw [h5,e2,tl]
      simp
     have hcsl:cs.length = l.length:=by rw [k5,Nat.mul_one]
     refine (zbbt (m.l (e.b id)).b (m.l g).b k cg.size bs w hcell (fun h0 => by rw [h0] at hb0; cases hb0) (by omega) ?_ (by simp [World.shape?,r1]) ?_ ?_).mono ?_
     · omega
     · have:=r6 (bs.length - 1) (by omega)
       omega
     · intro j x hx
       obtain ⟨hjl,_⟩:=List.getElem?_eq_some_iff.1 hx
       obtain ⟨n,hn,hnx⟩:=tg j x hx
       have hj:j < l.length:=by omega
       have hin:=List.all_eq_true.1 hok _ (List.getElem_mem hj)
       have hgd:l.getD j .undef = l[j]:=by simp [List.getD_eq_getElem?_getD,hj]
       rw [hgd] at hn
       rw [hn] at hin
       simp only [okB,Bool.and_eq_true,decide_eq_true_eq] at hin
       have hpj:=p5 j hj 0 (by omega)
       rw [hgd,hn] at hpj
       have hpj:PR σ (.int .u8 n) (cs.getD (0 + j * 1 + 0) undef):=hpj
       rw [Nat.zero_add,Nat.mul_one,Nat.add_zero] at hpj
       obtain ⟨t1,t2,_⟩:=r6 j (by omega)
       have hcj:cs.getD j undef = .int .u8 n:=by
        generalize cs.getD j undef = c at hpj
        cases hpj; rfl
       rw [hcj] at t2
       have hcg:=tw t2
       have hxn:(x.toNat:Int) = n:=by
        rw [← hnx,UInt8.toNat_ofNat']
        omega
       rw [iz]
       have h6:cg[0 + j]? = some (cg.getD (0 + j) undef):=by simp [Array.getD,t1]
       simp only [World.cell?,r1]
       rw [h6,Nat.zero_add,hcg,hxn]
       simp
     rintro x w' ⟨rfl,rfl⟩
     have hrep2:=j4 (n:=bs.length) hrep.drew hap
     have nx:(σ.set g (.cells a9 cs .ro)).next = σ.next:=rfl
     have oat:∀ k,k ≠ g → (σ.set g (.cells a9 cs .ro)).at k = σ.at k:=fun k hkg => σ.at_set_ne _ hkg
     have gat:(σ.set g (.cells a9 cs .ro)).at g = .cells a9 cs .ro:=σ.at_set_same _ hgl
     have hk:ye σ (σ.set g (.cells a9 cs .ro)):=fun k t2 ds md hkk hm => by
      by_cases hkg:k = g
      · subst hkg; rw [k4] at hkk; cases hkk; exact ⟨.ro,by simp,gat⟩
      · exact ⟨md,hm,by rw [oat k hkg]; exact hkk⟩
     have ne:∀ k,(∀ i,e1.who k ≠ .tok i) → k ≠ g:=by
      intro k hk hkg
      rw [hkg] at hk
      exact hk _ k3
     have nt:∀ k,(∀ i,e1.who k ≠ .tok i) → (e1.who k).noTok = e1.who k:=fun k hk => by
      cases hq:e1.who k with
      | tok i => exact absurd hq (hk i)
      | _ => rfl
     refine ⟨.string ⟨bs.toArray⟩,.string ⟨bs.toArray⟩,m,σ.set g (.cells a9 cs .ro),rfl,.refl _,.string _,hrep2,⟨e1.b,e1.n,fun k => if k = g then .none else (e1.who k).noTok⟩,zbhv (hst.step (tk':=[]) ⟨hk,Nat.le_refl _,fun _ _ => rfl,fun i hi => hi,fun i n' t' hi => absurd hi (Nat.not_lt_zero _)⟩ (Nat.le_refl _) (fun k hkn hkm => ?_) hst.n rfl (fun k hkm => ?_) (fun k hkm => ?_) (fun k i hkm => ?_) (fun k hkn hkm => ?_) (fun i hi => ?_)) (fun k i hki => ?_),.pr (.str _)⟩
     · exact zbis (ne k fun i hi => hkm (by rw [hi]; trivial))
     · by_cases h2:k = g
       · simp only [if_pos h2] at hkm; exact hkm.elim
       · simp only [if_neg h2] at hkm; exact hst.mine k (zbvb hkm)
     · by_cases h2:k = g
       · simp only [if_pos h2] at hkm; exact absurd rfl hkm
       · simp only [if_neg h2] at hkm; exact hst.wlt k (zbnj hkm)
     · by_cases h2:k = g
       · simp only [if_pos h2] at hkm; rcases hkm with hkm | ⟨_,hkm⟩ <;> cases hkm
       · simp only [if_neg h2,zbh6,uc] at hkm; exact hst.wid k i hkm
     · simp only
       rw [if_neg (ne k fun i hi => hkm (by rw [hi]; trivial)),nt k fun i hi => hkm (by rw [hi]; trivial)]
     · obtain ⟨b2,z1,z2⟩:=hst.ob i hi
       refine ⟨b2,z1,bx.step (e:=e1) hk (fun _ _ => rfl) (by have h7:=hst.n; show i + 1 ≤ e1.n; rw [h7]; exact hi) (fun q => oat _ (ne _ (by rw [q]; simp))) (fun q => by simp only; rw [if_neg (ne _ (by rw [q]; simp))]; exact zbh6.2 q) (fun k j hkk => ?_) z2⟩
       have hkg:=ne k (by rw [hkk]; simp)
       exact ⟨by simp only; rw [if_neg hkg]; exact uc.2 hkk,oat k hkg⟩
     · by_cases h2:k = g
       · simp only [if_pos h2] at hki; cases hki
       · simp only [if_neg h2] at hki
         cases hq:e1.who k <;> rw [hq] at hki <;> simp [Own.noTok] at hki
 · cases h
end Ic
end Go.Proofs.Ytgkkienmocpnbaa
namespace Go.Proofs.Ytgkkienmocpnbaa
open Go Go.RowKit Sh Ic
abbrev W:=BitVec 32
def ta (x:W) (n:Nat):W:=x >>> n ||| x <<< (32 - n)
def bt (s:ByteArray) (i:Nat):W:=BitVec.ofNat 32 (s.data.getD i 0).toNat
def be4 (s:ByteArray) (i:Nat):W:=bt s (4 * i) <<< 24 ||| bt s (4 * i + 1) <<< 16 ||| bt s (4 * i + 2) <<< 8 ||| bt s (4 * i + 3)
def fill (s:ByteArray):Nat → Nat → List W → List W
 | _,0,ws => ws
 | i,n + 1,ws => fill s (i + 1) n (ws.set i (be4 s i))
def zcfm (x:W):W:=ta x 7 ^^^ ta x 18 ^^^ x >>> 3
def zcfl (x:W):W:=ta x 17 ^^^ ta x 19 ^^^ x >>> 10
def zbqc (ws:List W) (i:Nat):W:=ws.getD (i - 16) 0 + zcfm (ws.getD (i - 15) 0) + ws.getD (i - 7) 0 + zcfl (ws.getD (i - 2) 0)
def zaqh:Nat → Nat → List W → List W
 | _,0,ws => ws
 | i,n + 1,ws => zaqh (i + 1) n (ws.set i (zbqc ws i))
structure V8 where
 a:W
 b:W
 c:W
 d:W
 e:W
 f:W
 g:W
 h:W
def V8.t1 (v:V8) (k w:W):W:=v.h + (ta v.e 6 ^^^ ta v.e 11 ^^^ ta v.e 25) + (v.e &&& v.f ^^^ ~~~v.e &&& v.g) + k + w
def V8.t2 (v:V8):W:=(ta v.a 2 ^^^ ta v.a 13 ^^^ ta v.a 22) + (v.a &&& v.b ^^^ v.a &&& v.c ^^^ v.b &&& v.c)
def V8.rnd (v:V8) (k w:W):V8:=⟨v.t1 k w + v.t2,v.a,v.b,v.c,v.d + v.t1 k w,v.e,v.f,v.g⟩
def zbmz (ks ws:List W):Nat → Nat → V8 → V8
 | _,0,v => v
 | i,n + 1,v => zbmz ks ws (i + 1) n (v.rnd (ks.getD i 0) (ws.getD i 0))
def V8.list (v:V8):List W:=[v.a,v.b,v.c,v.d,v.e,v.f,v.g,v.h]
def zbao (vs:List W):Nat → Nat → List W → List W
 | _,0,hs => hs
 | i,n + 1,hs => zbao vs (i + 1) n (hs.set i (hs.getD i 0 + vs.getD i 0))
def zbbe:List W:=[0x428a2f98,0x71374491,0xb5c0fbcf,0xe9b5dba5,0x3956c25b,0x59f111f1,0x923f82a4,0xab1c5ed5,0xd807aa98,0x12835b01,0x243185be,0x550c7dc3,0x72be5d74,0x80deb1fe,0x9bdc06a7,0xc19bf174,0xe49b69c1,0xefbe4786,0x0fc19dc6,0x240ca1cc,0x2de92c6f,0x4a7484aa,0x5cb0a9dc,0x76f988da,0x983e5152,0xa831c66d,0xb00327c8,0xbf597fc7,0xc6e00bf3,0xd5a79147,0x06ca6351,0x14292967,0x27b70a85,0x2e1b2138,0x4d2c6dfc,0x53380d13,0x650a7354,0x766a0abb,0x81c2c92e,0x92722c85,0xa2bfe8a1,0xa81a664b,0xc24b8b70,0xc76c51a3,0xd192e819,0xd6990624,0xf40e3585,0x106aa070,0x19a4c116,0x1e376c08,0x2748774c,0x34b0bcb5,0x391c0cb3,0x4ed8aa4a,0x5b9cca4f,0x682e6ff3,0x748f82ee,0x78a5636f,0x84c87814,0x8cc70208,0x90befffa,0xa4506ceb,0xbef9a3f7,0xc67178f2]
def V8.ofL (l:List W):V8:=⟨l.getD 0 0,l.getD 1 0,l.getD 2 0,l.getD 3 0,l.getD 4 0,l.getD 5 0,l.getD 6 0,l.getD 7 0⟩
def zblp:List W:=List.replicate 64 0
def zbip (s:ByteArray):List W:=zaqh 16 48 (fill s 0 16 zblp)
def zbl9 (hs:List W) (s:ByteArray):List W:=zbao (zbmz zbbe (zbip s) 0 64 (V8.ofL hs)).list 0 8 hs
def sh8 (L:Int) (i:Nat):Int:=IntKind.u8.wrap (Int.fdiv L (2 ^ (56 - 8 * i)))
def lb (L:Int):Nat → Nat → List Int
 | _,0 => []
 | i,n + 1 => sh8 L i :: lb L (i + 1) n
def zbh0:Nat → List Int → List W → List W
 | 0,_,hs => hs
 | n + 1,m,hs => zbh0 n (m.drop 64) (zbl9 hs (ox (m.take 64)))
def o4 (y:Int):List Int:=[(IntKind.u8.wrap (Int.fdiv y (2 ^ (Nat.min 24 IntKind.u32.bits)))),(IntKind.u8.wrap (Int.fdiv y (2 ^ (Nat.min 16 IntKind.u32.bits)))),(IntKind.u8.wrap (Int.fdiv y (2 ^ (Nat.min 8 IntKind.u32.bits)))),(IntKind.u8.wrap y)]
def zbia (hs:List W):Nat → Nat → List Int
 | _,0 => []
 | i,n + 1 => o4 ((hs.getD i 0).toNat:Int) ++ zbia hs (i + 1) n
def H0:List W:=[1779033703,3144134277,1013904242,2773480762,1359893119,2600822924,528734635,1541459225]
def kz (n:Nat):Nat:=(120 - (n + 1) % 64) % 64
def zbho (s:ByteArray):Int:=IntKind.u64.wrap ((IntKind.u64.wrap ((s.size:Nat):Int)) * (8:Int))
def zbhw (s:ByteArray):List Int:=((bo s ++ [128]) ++ List.replicate (kz s.size) 0) ++ lb (zbho s) 0 8
def zbib (s:ByteArray):Nat:=(s.size + 1 + kz s.size + 8) / 64
def state (s:ByteArray):List W:=zbh0 (zbib s) (zbhw s) H0
def SHA (s:ByteArray):ByteArray:=ox (zbia (state s) 0 8)
def zbem (l:List UInt8):Int:=l.foldl (fun v c => IntKind.i64.wrap (v * 256 + c.toNat)) 0
def xo (s:ByteArray):Option (ByteArray × ByteArray) :=
 if 8 ≤ s.size ∧ 0 ≤ zbem (s.extract 0 8).data.toList ∧ zbem (s.extract 0 8).data.toList ≤ 1048576 ∧ zbem (s.extract 0 8).data.toList + 8 ≤ s.size then
  some (s.extract 8 (8 + (zbem (s.extract 0 8).data.toList).toNat),s.extract (8 + (zbem (s.extract 0 8).data.toList).toNat) s.size) else none
def qy (b:ByteArray):ByteArray:=(SHA b).extract 0 8
def ia (s:ByteArray):Option (ByteArray × Nat × ByteArray):=(xo s).bind fun x =>
 if 8 ≤ x.2.size ∧ s.extract (8 + x.1.size) (16 + x.1.size) = qy x.1 then some (x.1,16 + x.1.size,s.extract (16 + x.1.size) s.size) else none
def vu:Nat → ByteArray → List (ByteArray × Nat)
 | 0,_ => []
 | k + 1,s => match ia s with
  | some x => (x.1,x.2.1) :: vu k x.2.2
  | none => []
def zbbj (s:ByteArray):List ByteArray:=(vu s.size s).map Prod.fst
def zbio (s:ByteArray):Nat:=((vu s.size s).map Prod.snd).sum
namespace Ic
def zbb3 (s:ByteArray):TV:=.tup [.sl ((zbbj s).map TV.str),.int .i64 (zbio s)]
open Classical in
noncomputable def zbb4 (args:List TV) (τ:TH):Option (TV × TH) :=
 match args with
 | [.str s] => if zbbc Try.prog ie [.str s] τ (zbb3 s) τ then some (zbb3 s,τ) else none
 | _ => none
theorem zca3:∀ args τ r τ',zbb4 args τ = some (r,τ') → zbbc Try.prog ie args τ r τ':=by
 intro args τ r τ' h
 unfold zbb4 at h
 split at h
 · split at h
   · rename_i hc
     simp only [Option.some.injEq,Prod.mk.injEq] at h
     obtain ⟨rfl,rfl⟩:=h
     exact hc
   · cases h
 · cases h
end Ic
end Go.Proofs.Ytgkkienmocpnbaa
