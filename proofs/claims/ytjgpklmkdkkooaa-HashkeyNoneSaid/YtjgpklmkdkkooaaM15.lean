import Derived.Test.YtjgpklmkdkkooaaTcT
import Derived.Test.YtjgpklmkdkkooaaM13
import Derived.Lib.Builder
import Derived.Lib.UnsafeStr
import Derived.Laws.Externs
import Derived.WalkKit
import Derived.WideKeyPair
set_option linter.unusedVariables false
set_option linter.unusedSimpArgs false
set_option linter.unusedSectionVars false
namespace Go.Proofs.Ytjgpklmkdkkooaa
open Go Go.RowKit Sh
namespace Ic
abbrev zc42:Nat:=68
abbrev zdj2:Nat:=143
abbrev zc7d:Nat:=34
abbrev zb9i:Nat:=114
theorem zbuj {P:Program} {T:TypeId} {d n:Nat} (hd:P.depth = d + 1) (hc:P.cellsOf T = 2) (hs:sameLayout P P.depth T T = true) (hn:2 ≤ n):liesAt P P.depth T (n / P.cellsOf T) 0 T 1 = true:=by
 have h1:decide (0 + 1 ≤ n / 2) = true:=decide_eq_true (by omega)
 rw [hd] at hs ⊢
 unfold liesAt
 rw [hd]
 unfold rowAt
 simp only [hc,hs]
 simp [h1]
set_option maxHeartbeats 1000000 in
set_option maxRecDepth 100000 in
theorem zbvn (b:Nat) (w:World) (h0:w.cell? ⟨b,0,none⟩ = some (.pointer (some ⟨b,0,none⟩))) :
 Calls Try.prog dt #[.pointer (some ⟨b,0,none⟩)] w fun e w' => e = .returned (.tuple #[]) ∧ w' = w:=by
 obtain ⟨j,hj,hjs⟩:=Option.map_eq_some_iff.1 (show (Try.prog.info? bz).map (·.size) = some 2 by kernel_rfl)
 have hp:Try.prog.underlying zc42 = some (.pointer bz):=by kernel_rfl
 go_enter Try.func95,Try.ntmps95
 go_wp2
 rw [Lib.run_neq_ptr_same w _ hp hj]
 go_wp2
 go_end0
 exact ⟨rfl,rfl⟩
set_option maxHeartbeats 1000000 in
set_option maxRecDepth 100000 in
theorem zbp7 (b n:Nat) (w:World) (h0:w.cell? ⟨b,0,none⟩ = some (.pointer none)) (hn:2 ≤ n) (hsh:w.shape? b = some (bz,n)) (hfz:w.frozen? ⟨b,0,none⟩ = false) :
 Calls Try.prog dt #[.pointer (some ⟨b,0,none⟩)] w fun e w' => e = .returned (.tuple #[]) ∧ w' = w.setCell ⟨b,0,none⟩ (.pointer (some ⟨b,0,none⟩)):=by
 obtain ⟨j,hj,hjs⟩:=Option.map_eq_some_iff.1 (show (Try.prog.info? bz).map (·.size) = some 2 by kernel_rfl)
 have hp:Try.prog.underlying zc42 = some (.pointer bz):=by kernel_rfl
 have hu:Try.prog.underlying zdj2 = some .unsafePointer:=by kernel_rfl
 go_enter Try.func95,Try.ntmps95
 go_wp2
 rw [Lib.run_to_unsafe w ⟨b,0,none⟩ hp hu hj (by rw [hjs]; decide) hsh (by show 0 < n; omega)]
 simp only [Result.andThen]
 rw [Oper.upon_value]
 go_wp2
 rw [run_callFunc_extern Try.func135 (by kernel_rfl) (by kernel_rfl) (by kernel_rfl) (e:=Extern.AbiNoEscape.same) (by kernel_rfl)]
 rw [Lib.run_noEscape]
 simp only [Result.andThen]
 rw [Oper.upon_value]
 go_wp2
 rw [Lib.run_from_unsafe w ⟨b,0,none⟩ hu hp hj hsh (zbuj (d:=Try.prog.depth - 1) (by kernel_rfl) (by kernel_rfl) (by kernel_rfl) hn)]
 simp only [Result.andThen]
 rw [Oper.upon_value]
 go_wp2
 go_end0
 exact ⟨rfl,rfl⟩
section
variable {e:Env} {τ:TH} {σ:ar}
theorem zbza (h:HR e τ σ) (hnt:∀ g i,e.who g ≠ .tok i):St ⟨σ,e,τ.lock⟩ e [] [] τ (fun _ => undef) σ where
 nx:=Nat.le_refl _
 keep:=fun _ _ _ => rfl
 fro:=.refl _
 n0:=Nat.le_refl _
 b0:=fun _ _ => rfl
 n:=h.n
 lo:=rfl
 mine:=fun g hg => by
  cases hq:e.who g with
  | none => rw [hq] at hg; exact hg.elim
  | obj id => rw [hq] at hg; exact .inr ⟨id,hg,.inl hq⟩
  | cell id j => rw [hq] at hg; exact .inr ⟨id,hg,.inr ⟨j,hq⟩⟩
  | tok i => exact absurd hq (hnt g i)
 wlt:=h.wlt
 wid:=h.wid
 old:=fun _ _ _ => rfl
 ob:=h.ob
 fm:=fun t => .undef _
theorem zcd0 {B:Bs} {fr:TF} {tk:TK} {fr':Fr} (h:St B e fr tk τ fr' σ) (hnt:∀ g i,e.who g ≠ .tok i):Aft B e τ σ where
 hr:=⟨h.n,h.wlt,h.wid,h.ob⟩
 nx:=h.nx
 keep:=h.keep
 fro:=h.fro
 n0:=h.n0
 b0:=h.b0
 old:=h.old
 notok:=hnt
 lock:=h.lo
end
theorem zdi8 {w:World} {a:Addr} {n b:Nat} (h:b ≠ a.block):(w.freeze a n).heap[b]? = w.heap[b]?:=by
 unfold World.freeze
 split
 · rfl
 · simp only [Array.getElem?_modify]
   rw [if_neg (Ne.symm h)]
theorem zdkk {w:World} {a:Addr} {n:Nat} {c:Array Value} {t:TypeId} {fz:Nat × Nat} (h:w.heap[a.block]? = some (.cells c t fz)):∃ fz',(w.freeze a n).heap[a.block]? = some (.cells c t fz'):=by
 unfold World.freeze
 split
 · exact ⟨fz,h⟩
 · refine ⟨if fz.1 == fz.2 then (a.off,a.off + n) else (min fz.1 a.off,max fz.2 (a.off + n)),?_⟩
   simp only [Array.getElem?_modify,if_true,h,Option.map_some]
theorem zbpj {B:Nat} {w0:World} {σ:ar} {m:Mp} {w:World} {t:TypeId} {i:Nat} {cs:List Value} {n:Nat} (h:Rep B w0 σ m w) (hr:σ.apRow t i = some cs):Rep B w0 (σ.set i (.cells t cs .ro)) m (w.freeze ⟨(m.l i).b,0,none⟩ n):=by
 obtain ⟨hi,hq,_⟩:=zceo h hr
 have h2:=h.toRo hr
 have hB:B ≤ (m.l i).b:=by
  have q:=h.blk i hi
  rw [hq] at q
  obtain ⟨c,t',fz,_,_,h3⟩:=q
  exact (h3 (by simp)).1
 refine ⟨h2.next,Lib.below_freeze h2.below hB n,h2.base,fun j hj => ?_,h2.apart⟩
 have q:=h2.blk j hj
 by_cases hb:(m.l j).b = (m.l i).b
 · have hro:∃ t' cs',(σ.set i (.cells t cs .ro)).blk j = .cells t' cs' .ro ∨ (σ.set i (.cells t cs .ro)).blk j = .dead:=by
    by_cases hji:j = i
    · exact ⟨t,cs,.inl (by simp [ar.set,hji])⟩
    · have hsb:(σ.set i (.cells t cs .ro)).blk j = σ.blk j:=by simp [ar.set,hji]
      cases hlv:(σ.blk j).live with
      | false =>
       refine ⟨t,cs,.inr ?_⟩
       rw [hsb]
       cases hqj:σ.blk j <;> rw [hqj] at hlv <;> first | rfl | cases hlv
      | true =>
       rcases h.apart i j hi hj (Ne.symm hji) (by rw [hq]; rfl) hlv with h5 | h5
       · exact absurd hb.symm h5
       · obtain ⟨_,_,t2,c2,_,e2,_⟩:=zb0g h5
         exact ⟨t2,c2,.inl (by rw [hsb]; exact e2)⟩
   obtain ⟨t',cs',hro | hro⟩:=hro
   · rw [hro] at q ⊢
     obtain ⟨c,t2,fz,g1,g2,g3⟩:=q
     obtain ⟨fz',g4⟩:=zdkk (w:=w) (a:=⟨(m.l i).b,0,none⟩) (n:=n) (by rw [hb] at g1; exact g1)
     exact ⟨c,t2,fz',by rw [hb]; exact g4,g2,fun e => (e rfl).elim⟩
   · rw [hro]; trivial
 · exact q.world (zdi8 hb)
theorem zco9 {c:Array Value} (h:0 < c.size):c[0]? = some (c.getD 0 undef):=by simp [Array.getD,h]
theorem zbu4 {c:Array Value} (h:1 < c.size):c[1]? = some (c.getD 1 undef):=by simp [Array.getD,h]
def zb7k (args:List TV) (τ:TH):Option (TV × TH) :=
 match args with
 | [.ptr id off] => (τ.at id).bind fun b =>
  if off = 0 ∧ b.t = bz then
   match b.cs with
   | [.nilP,c] => if τ.lock ≤ id then some (.tup [],τ.put id ⟨b.t,[.ptr id 0,c]⟩) else none
   | [.ptr id' o,c] => if id' = id ∧ o = 0 then some (.tup [],τ) else none
   | _ => none
  else none
 | _ => none
theorem zcoe {ws:List Value} {σ:ar} {e:Env} {id off:Nat} (hlen:[TV.ptr id off].length = ws.length) (h:∀ i,i < [TV.ptr id off].length → TR σ e [] ([TV.ptr id off].getD i .undef) (ws.getD i undef)):id < e.n ∧ ws = [.pointer (some ⟨e.b id,off,none⟩)]:=by
 obtain ⟨w0,rfl⟩:∃ w0,ws = [w0]:=List.length_eq_one_iff.1 (by simpa using hlen.symm)
 have h0:=h 0 (by simp)
 simp only [List.getD_cons_zero] at h0
 obtain ⟨h1,h2⟩:=zabk h0
 exact ⟨h1,by rw [h2]⟩
theorem z3:∀ args τ r τ',zb7k args τ = some (r,τ') → zbxs Try.prog dt args τ r τ':=by
 intro args τ r τ' h σ e ws hr hnt hlen hargs
 unfold zb7k at h
 split at h
 rotate_left
 · cases h
 rename_i id off
 obtain ⟨b,hb,h'⟩:=Option.bind_eq_some_iff.1 h
 clear h
 split at h'
 rotate_left
 · cases h'
 rename_i hc
 obtain ⟨rfl,ht⟩:=hc
 have h:=h'
 clear h'
 obtain ⟨hid,rfl⟩:=zcoe hlen hargs
 have hidn:id < τ.next:=by rw [← hr.n]; exact hid
 obtain ⟨b',hb',ho⟩:=hr.ob id hidn
 rw [hb] at hb'; injection hb' with hb'; subst hb'
 refine ⟨by kernel_rfl,fun B w0 m w cargs hrep hsz hvr => ?_⟩
 obtain ⟨a0,rfl⟩:∃ a0,cargs = #[a0]:=by
  have:cargs.size = 1:=hsz
  obtain ⟨l⟩:=cargs
  match l,this with
  | [x],_ => exact ⟨x,rfl⟩
 have hv:=hvr 0 (by simp)
 obtain ⟨_,hbn,hv⟩:=zchz hv
 have hv:a0 = .pointer (some ⟨(m.l (e.b id)).b,(m.l (e.b id)).base + 0,none⟩):=hv
 have two:∀ c0 c1,b.cs = [c0,c1] → ∃ ds cc fz,e.who (e.b id) = .obj id ∧ σ.at (e.b id) = .cells b.t ds .rw ∧ ds.length = 2 ∧ CR σ e id 0 c0 (ds.getD 0 undef) ∧ CR σ e id 1 c1 (ds.getD 1 undef) ∧ scalar (ds.getD 0 undef) = true ∧
  (m.l (e.b id)).base = 0 ∧ w.heap[(m.l (e.b id)).b]? = some (.cells cc b.t fz) ∧ 2 ≤ cc.size ∧ d7 m (ds.getD 0 undef) (cc.getD 0 undef) ∧ d7 m (ds.getD 1 undef) (cc.getD 1 undef) ∧ ∀ o,o < cc.size → ¬ (fz.1 ≤ o ∧ o < fz.2):=fun c0 c1 hcs => by
  obtain ⟨hwho,ds,h1,h2,h3⟩:=ho.live (by rw [hcs]; simp)
  rw [hcs] at h2 h3
  have hlt:e.b id < σ.next:=ar.lt_of_at (by rw [h1]; rfl)
  have q:=hrep.blk (e.b id) hlt
  rw [← ar.at_lt hlt,h1] at q
  obtain ⟨cc,t',fz,g1,g2,g3⟩:=q
  obtain ⟨g4,g5,g6,g7,g8⟩:=g3 (by simp)
  have h2:ds.length = 2:=h2
  have k0:=g2 0 (by omega)
  have k1:=g2 1 (by omega)
  rw [g6] at k0 k1
  exact ⟨ds,cc,fz,hwho,h1,h2,(h3 0 (by omega)).1,(h3 1 (by omega)).1,(h3 0 (by omega)).2,g6,by rw [g1,g5],by have:=k1.1; omega,k0.2.1,k1.2.1,g8⟩
 split at h
 · -- a fresh one
   rename_i c hcs
   split at h
   rotate_left
   · cases h
   rename_i hlo
   simp only [Option.some.injEq,Prod.mk.injEq] at h
   obtain ⟨rfl,rfl⟩:=h
   obtain ⟨ds,cc,fz,hwho,h1,h2,cr0,cr1,sc0,hbase,g1,g2,v0,v1,g8⟩:=two _ _ hcs
   rw [hbase] at hv
   subst hv
   have e0:ds.getD 0 undef = .pointer none:=by
    have:=cr0.1
    exact zcee this
   rw [e0] at v0
   have e1:=zbrf v0
   have hcell:w.cell? ⟨(m.l (e.b id)).b,0,none⟩ = some (.pointer none):=by
    have h5:=zco9 (c:=cc) (by omega)
    simp only [World.cell?,g1]
    rw [h5,e1]
    rfl
   refine (zbp7 (m.l (e.b id)).b cc.size w hcell g2 (by simp [World.shape?,g1,ht]) ?_).mono ?_
   · have:=g8 0 (by omega)
     simp only [World.frozen?,g1]
     simpa using this
   rintro x w' ⟨rfl,rfl⟩
   obtain ⟨σ2,s1,s2,s3⟩:=(zbza hr hnt).storeOb (tk':=[]) (who:=fun g => match e.who g with | .cell i j => if i = id ∧ j = 0 then .none else .cell i j | o => o) (vs:=[.ptr id 0]) (ws:=[.pointer (some ⟨e.b id,0,none⟩)]) (off:=0) hb hidn (by simp) rfl (by rw [hcs]; simp)
    (fun g i hg => by simp only [hg]) (fun g i j hg hn => by simp only [hg]; rw [if_neg]; rintro ⟨rfl,rfl⟩; rcases hn with hn | hn <;> simp at hn) (fun g hg hq => by simp only [hq] at hg; exact hg rfl)
    (fun g hg => by
     cases hq:e.who g with
     | cell i j =>
      simp only [hq] at hg
      split at hg
      · exact hg.elim
      · exact hg
     | _ => simp only [hq] at hg; exact hg)
    (fun g hg => by
     cases hq:e.who g with
     | cell i j =>
      simp only
      rw [if_neg]
      rintro ⟨rfl,rfl⟩
      rw [hq] at hg
      exact hg hlo
     | _ => rfl)
    (fun g i hg => by
     refine hr.wid g i ?_
     cases hq:e.who g with
     | cell i' j' =>
      simp only [hq] at hg
      split at hg
      · rcases hg with hg | ⟨_,hg⟩ <;> cases hg
      · exact hg
     | _ => simp only [hq] at hg; exact hg)
    hlo (fun i hi => absurd hi (Nat.not_lt_zero _)) (fun i n' t' hi => absurd hi (Nat.not_lt_zero _)) (fun σ' hk hat j hj => by
     obtain rfl:j = 0:=by simpa using hj
     exact ⟨.ptr id 0 hid,by simp [TV.under],rfl⟩)
   have hst:=hrep.store1 Try.prog (i:=e.b id) (o:=0) (v:=.pointer (some ⟨e.b id,0,none⟩)) (c:=.pointer (some ⟨(m.l (e.b id)).b,0,none⟩)) (σ':=σ2) (by rw [← hrep.next]; exact hbn) (by
    simpa [ar.store] using s1) (by
     have:=d7.ptr (m:=m) (e.b id) 0 hbn
     rw [hbase] at this
     exact this)
   rw [hbase] at hst
   rw [hcs] at s2
   refine ⟨.tuple #[],.tuple #[],m,σ2,rfl,.refl _,.undef _,hst.2,_,zcd0 s2 ?_,.tup [] #[] rfl (fun i hi => absurd hi (Nat.not_lt_zero _))⟩
   · intro g i hg
     cases hq:e.who g with
     | cell i' j' =>
      simp only [hq] at hg
      split at hg <;> cases hg
     | tok k => exact hnt g k hq
     | _ => simp only [hq] at hg; cases hg
 · -- one in use
   rename_i id' o c hcs
   split at h
   rotate_left
   · cases h
   rename_i hcc
   obtain ⟨rfl,rfl⟩:=hcc
   simp only [Option.some.injEq,Prod.mk.injEq] at h
   obtain ⟨rfl,rfl⟩:=h
   obtain ⟨ds,cc,fz,hwho,h1,h2,cr0,cr1,sc0,hbase,g1,g2,v0,v1,g8⟩:=two _ _ hcs
   rw [hbase] at hv
   subst hv
   have e0:ds.getD 0 undef = .pointer (some ⟨e.b id',0,none⟩):=(zabk cr0.1).2
   rw [e0] at v0
   obtain ⟨_,_,e1⟩:=zchz v0
   rw [hbase] at e1
   have hcell:w.cell? ⟨(m.l (e.b id')).b,0,none⟩ = some (.pointer (some ⟨(m.l (e.b id')).b,0,none⟩)):=by
    have h5:=zco9 (c:=cc) (by omega)
    simp only [World.cell?,g1]
    rw [h5,e1]
    rfl
   refine (zbvn (m.l (e.b id')).b w hcell).mono ?_
   rintro x w' ⟨rfl,rfl⟩
   exact ⟨.tuple #[],.tuple #[],m,σ,rfl,.refl _,.undef _,hrep,e,zcd0 (zbza hr hnt) hnt,.tup [] #[] rfl (fun i hi => absurd hi (Nat.not_lt_zero _))⟩
 · cases h
set_option maxHeartbeats 2000000 in
set_option maxRecDepth 100000 in
theorem zbyc (b g cap cells:Nat) (l:List UInt8) (w:World) (h1:w.cell? ⟨b,1,none⟩ = some (.slice (some ⟨g,0,none⟩) l.length cap)) (h0:l ≠ []) (hc:l.length ≤ cap) (hm:l.length ≤ maxLen) (hsh:w.shape? g = some (dv,cells)) (hcs:l.length ≤ cells)
 (hcell:∀ j x,l[j]? = some x → w.cell? ((⟨g,0,none⟩:Addr).add j) = some (.int .u8 x.toNat)) :
 Calls Try.prog cd #[.pointer (some ⟨b,0,none⟩)] w fun e w' => e = .returned (.string ⟨l.toArray⟩) ∧ w' = w.drew.freeze ⟨g,0,none⟩ l.length:=by
 have hl0:l.length ≠ 0:=by simpa using h0
 have c1:w.drew.cell? ⟨b,1,none⟩ = some (.slice (some ⟨g,0,none⟩) l.length cap):=h1
 have hSD:(Builtin.unsafeSliceData_ #[zc7d] zb9i #[.slice (some ⟨g,0,none⟩) l.length cap]).run Try.prog w.drew = .ok (.pointer (some ⟨g,0,none⟩)) w.drew :=
  Lib.run_unsafeSliceData_row _ _ _ _ _ _ (by omega)
 have hUS:(Builtin.unsafeString_ #[zb9i,3] 9 #[.pointer (some ⟨g,0,none⟩),.int .i64 l.length]).run Try.prog w.drew = .ok (.string ⟨l.toArray⟩) (w.drew.freeze ⟨g,0,none⟩ l.length) :=
  Lib.run_unsafeString_row w.drew zb9i 3 9 dv (by kernel_rfl) (by kernel_rfl) g cells hsh l h0 hcs (by unfold maxLen at hm; omega) hcell
 go_enter Try.func49,Try.ntmps49
 go_wp2
 go_region
 all_goals (go_wp2; go_ret; exact ⟨rfl,rfl⟩)
set_option maxHeartbeats 2000000 in
set_option maxRecDepth 100000 in
theorem zbrz (b:Nat) (w:World) (h1:w.cell? ⟨b,1,none⟩ = some (.slice none 0 0)) :
 Calls Try.prog cd #[.pointer (some ⟨b,0,none⟩)] w fun e w' => e = .returned (.string ⟨#[]⟩) ∧ w' = w.drew:=by
 have hUS:∀ (W:World) (q:Option Addr),(Builtin.unsafeString_ #[zb9i,3] 9 #[.pointer q,.int .i64 0]).run Try.prog W = .ok (.string .empty) W:=fun W q => Lib.run_unsafeString_none W _ _ _ q
 have c1:w.drew.cell? ⟨b,1,none⟩ = some (.slice none 0 0):=h1
 have hSD:(Builtin.unsafeSliceData_ #[zc7d] zb9i #[.slice none 0 0]).run Try.prog w.drew = .ok (.pointer none) w.drew:=rfl
 go_enter Try.func49,Try.ntmps49
 go_wp2
 go_region
 all_goals (go_wp2; go_ret; exact ⟨rfl,rfl⟩)
theorem zbmr {m:Mp} {g o n s:Nat} {c:Value} (h:d7 m (.slice (some ⟨g,o,none⟩) n s) c) (hn:n ≠ 0):∃ k,c = .slice (some ⟨(m.l g).b,(m.l g).base + o,none⟩) n k ∧ n ≤ k ∧ o + k * s = (m.l g).room:=by
 cases h with
 | slice i o n s k h hk hr => exact ⟨k,rfl,hk,hr⟩
 | sliceE => exact absurd rfl hn
def okB:TV → Bool
 | .int .u8 n => decide (0 ≤ n) && decide (n < 256)
 | _ => false
def zb3o (args:List TV) (τ:TH):Option (TV × TH) :=
 match args with
 | [.ptr id off] => (τ.at id).bind fun b =>
  if off = 0 ∧ b.t = bz then
   match b.cs with
   | [c0,.slz] => some (.str ⟨#[]⟩,τ)
   | [c0,.slo t l] => if t = dv ∧ τ.lock ≤ id ∧ l.length ≤ maxLen ∧ l.all okB = true then (if l = [] then some (.str ⟨#[]⟩,τ) else (wx l).map fun bs => (.str ⟨bs.toArray⟩,τ.put id ⟨b.t,[c0,.sl l]⟩)) else none
   | _ => none
  else none
 | _ => none
theorem zcuq:∀ {l:List TV} {bs:List UInt8},wx l = some bs → l.length = bs.length ∧ ∀ j x,bs[j]? = some x → ∃ n:Int,l.getD j .undef = .int .u8 n ∧ UInt8.ofNat n.toNat = x
 | [],bs,h => by
  injection h with h; subst h
  exact ⟨rfl,fun j x hx => by simp at hx⟩
 | v :: r,bs,h => by
  cases v with
  | int k n =>
   cases k with
   | u8 =>
    obtain ⟨bs',hb,rfl⟩:=Option.map_eq_some_iff.1 h
    obtain ⟨i1,i2⟩:=zcuq hb
    refine ⟨by simp [i1],fun j x hx => ?_⟩
    cases j with
    | zero => simp only [List.getElem?_cons_zero,Option.some.injEq] at hx; exact ⟨n,rfl,hx⟩
    | succ j => rw [List.getElem?_cons_succ] at hx; simpa using i2 j x hx
   | _ => cases h
  | _ => cases h
theorem zdij:∀ args τ r τ',zb3o args τ = some (r,τ') → zbxs Try.prog cd args τ r τ':=by
 intro args τ r τ' h σ e ws hr hnt hlen hargs
 unfold zb3o at h
 split at h
 rotate_left
 · cases h
 rename_i id off
 obtain ⟨b,hb,h'⟩:=Option.bind_eq_some_iff.1 h
 clear h
 split at h'
 rotate_left
 · cases h'
 rename_i hc
 obtain ⟨rfl,ht⟩:=hc
 have h:=h'
 clear h'
 obtain ⟨hid,rfl⟩:=zcoe hlen hargs
 have hidn:id < τ.next:=by rw [← hr.n]; exact hid
 obtain ⟨b',hb',ho⟩:=hr.ob id hidn
 rw [hb] at hb'; injection hb' with hb'; subst hb'
 refine ⟨by kernel_rfl,fun B w0 m w cargs hrep hsz hvr => ?_⟩
 obtain ⟨a0,rfl⟩:∃ a0,cargs = #[a0]:=by
  have:cargs.size = 1:=hsz
  obtain ⟨l⟩:=cargs
  match l,this with
  | [x],_ => exact ⟨x,rfl⟩
 have hv:=hvr 0 (by simp)
 obtain ⟨_,hbn,hv⟩:=zchz hv
 have hv:a0 = .pointer (some ⟨(m.l (e.b id)).b,(m.l (e.b id)).base + 0,none⟩):=hv
 have two:∀ c0 c1,b.cs = [c0,c1] → ∃ ds cc fz,e.who (e.b id) = .obj id ∧ σ.at (e.b id) = .cells b.t ds .rw ∧ ds.length = 2 ∧ CR σ e id 1 c1 (ds.getD 1 undef) ∧
  (m.l (e.b id)).base = 0 ∧ w.heap[(m.l (e.b id)).b]? = some (.cells cc b.t fz) ∧ 2 ≤ cc.size ∧ d7 m (ds.getD 1 undef) (cc.getD 1 undef):=fun c0 c1 hcs => by
  obtain ⟨hwho,ds,h1,h2,h3⟩:=ho.live (by rw [hcs]; simp)
  rw [hcs] at h2 h3
  have hlt:e.b id < σ.next:=ar.lt_of_at (by rw [h1]; rfl)
  have q:=hrep.blk (e.b id) hlt
  rw [← ar.at_lt hlt,h1] at q
  obtain ⟨cc,t',fz,g1,g2,g3⟩:=q
  obtain ⟨g4,g5,g6,g7,g8⟩:=g3 (by simp)
  have h2:ds.length = 2:=h2
  have k1:=g2 1 (by omega)
  rw [g6] at k1
  exact ⟨ds,cc,fz,hwho,h1,h2,(h3 1 (by omega)).1,g6,by rw [g1,g5],by have:=k1.1; omega,k1.2.1⟩
 have empty:∀ ds cc fz,(m.l (e.b id)).base = 0 → w.heap[(m.l (e.b id)).b]? = some (.cells cc b.t fz) → 2 ≤ cc.size → d7 m (ds:List Value)[1]! (cc.getD 1 undef) → ds[1]! = .slice none 0 0 →
  Calls Try.prog cd #[a0] w fun ex w' => ∃ v c m' σ',ex = .returned c ∧ m.le m' ∧ d7 m' v c ∧ Rep B w0 σ' m' w' ∧ ∃ e',Aft ⟨σ,e,τ.lock⟩ e' τ σ' ∧ TR σ' e' [] (.str ⟨#[]⟩) v:=fun ds cc fz hbase g1 g2 v1 e1 => by
  rw [hbase] at hv
  subst hv
  rw [e1] at v1
  obtain ⟨_,_,e2⟩:=zbre v1
  have h5:=zbu4 (c:=cc) (by omega)
  have hcell:w.cell? ⟨(m.l (e.b id)).b,1,none⟩ = some (.slice none 0 0):=by
   simp only [World.cell?,g1]
   rw [h5,e2]
   rfl
  refine (zbrz (m.l (e.b id)).b w hcell).mono ?_
  rintro x w' ⟨rfl,rfl⟩
  exact ⟨.string ⟨#[]⟩,.string ⟨#[]⟩,m,σ,rfl,.refl _,.string _,hrep.drew,e,zcd0 (zbza hr hnt) hnt,.pr (.str _)⟩
 split at h
 · -- nil
   rename_i c0 hcs
   simp only [Option.some.injEq,Prod.mk.injEq] at h
   obtain ⟨rfl,rfl⟩:=h
   obtain ⟨ds,cc,fz,hwho,h1,h2,cr1,hbase,g1,g2,v1⟩:=two _ _ hcs
   have e1:ds.getD 1 undef = .slice none 0 0:=zb4o cr1.1
   have e3:ds[1]! = ds.getD 1 undef:=by simp [List.getElem!_eq_getElem?_getD,List.getD_eq_getElem?_getD,h2]
   exact empty ds cc fz hbase g1 g2 (by rw [e3]; exact v1) (by rw [e3]; exact e1)
 · rename_i c0 t l hcs
   split at h
   rotate_left
   · cases h
   rename_i hq
   obtain ⟨rfl,hlo,hmx,hok⟩:=hq
   obtain ⟨ds,cc,fz,hwho,h1,h2,cr1,hbase,g1,g2,v1⟩:=two _ _ hcs
   split at h
   · -- of no bytes
     rename_i hl0
     subst hl0
     simp only [Option.some.injEq,Prod.mk.injEq] at h
     obtain ⟨rfl,rfl⟩:=h
     have e1:ds.getD 1 undef = .slice none 0 0:=by
      rcases cr1.2 with ⟨_,q⟩ | ⟨q,_⟩
      · exact q
      · exact absurd rfl q
     have e3:ds[1]! = ds.getD 1 undef:=by simp [List.getElem!_eq_getElem?_getD,List.getD_eq_getElem?_getD,h2]
     exact empty ds cc fz hbase g1 g2 (by rw [e3]; exact v1) (by rw [e3]; exact e1)
   · rename_i hl0
     obtain ⟨bs,hbs,hh⟩:=Option.map_eq_some_iff.1 h
     simp only [Prod.mk.injEq] at hh
     obtain ⟨rfl,rfl⟩:=hh
     obtain ⟨tl,tg⟩:=zcuq hbs
     rw [hbase] at hv
     subst hv
     -- the cell's row
     obtain ⟨w1,e1,q1,q2,q3,q4⟩:=(zbza hr hnt).take (off:=1) (t:=dv) (l:=l) hb hidn (by rw [hcs]; rfl) hlo
     have hst:St ⟨σ,e,τ.lock⟩ e1 [] [] (τ.put id ⟨b.t,b.cs.set 1 (.sl l)⟩) (fun _ => undef) σ:=⟨q2.nx,q2.keep,q2.fro,q2.n0,q2.b0,q2.n,q2.lo,q2.mine,q2.wlt,q2.wid,q2.old,q2.ob,fun t => .undef _⟩
     rw [hcs] at hst
     obtain ⟨hp,_,_,hlk⟩:=zchj q3 (n:=l.length) (t:=dv) rfl
     have hlk:=hlk rfl
     obtain hz | ⟨_,g,s,cs,rfl,k3,k4,k5⟩:=hlk
     · exact absurd hz.1 hl0
     -- its bytes
     obtain ⟨g',o',s',t',cs',md,p0,p1,p2,p3,p4,p5,p6⟩:=ye hl0 hp
     injection p6 with p6 _ p7
     injection p6 with p6
     injection p6 with p6 p8
     subst p6 p7 p8
     rw [k4] at p1
     injection p1 with p1 p1' p1''
     subst p1 p1' p1''
     have hlen0:0 < l.length:=by cases l with | nil => exact absurd rfl hl0 | cons => simp
     have hb0:0 < bs.length:=by omega
     obtain ⟨n0,hn0,_⟩:=tg 0 bs[0] (List.getElem?_eq_getElem hb0)
     have hs1:s = 1:=by
      have:=p4 0 hlen0
      rw [hn0] at this
      exact this.symm
     subst hs1
     have ecell:ds.getD 1 undef = .slice (some ⟨g,0,none⟩) l.length 1:=by
      have q1':σ.load (e.b id) 1 = some (.slice (some ⟨g,0,none⟩) l.length 1):=q1
      unfold ar.load at q1'
      rw [h1] at q1'
      simp only at q1'
      rw [List.getD_eq_getElem?_getD,q1']; rfl
     rw [ecell] at v1
     have hgl:g < σ.next:=ar.lt_of_at (by rw [k4]; rfl)
     have hap:σ.apRow dv g = some cs:=by unfold ar.apRow; rw [k4]; simp
     obtain ⟨_,hqb,cg,fzg,r1,r2,r3,r4,r5,r6⟩:=zceo hrep hap
     have v2:=zbmr v1 (by omega)
     obtain ⟨k,e2,hk1,hk2⟩:=v2
     rw [r3] at e2
     have h5:=zbu4 (c:=cc) (by omega)
     have hcell:w.cell? ⟨(m.l (e.b id)).b,1,none⟩ = some (.slice (some ⟨(m.l g).b,0,none⟩) bs.length k):=by
      simp only [World.cell?,g1]
      rw [h5,e2,tl]
      simp
     have hcsl:cs.length = l.length:=by rw [k5,Nat.mul_one]
     refine (zbyc (m.l (e.b id)).b (m.l g).b k cg.size bs w hcell (fun h0 => by rw [h0] at hb0; cases hb0) (by omega) ?_ (by simp [World.shape?,r1]) ?_ ?_).mono ?_
     · omega
     · have:=r6 (bs.length - 1) (by omega)
       omega
     · intro j x hx
       obtain ⟨hjl,_⟩:=List.getElem?_eq_some_iff.1 hx
       obtain ⟨n,hn,hnx⟩:=tg j x hx
       have hj:j < l.length:=by omega
       have hin:=List.all_eq_true.1 hok _ (List.getElem_mem hj)
       have hgd:l.getD j .undef = l[j]:=by simp [List.getD_eq_getElem?_getD,hj]
       rw [hgd] at hn
       rw [hn] at hin
       simp only [okB,Bool.and_eq_true,decide_eq_true_eq] at hin
       have hpj:=p5 j hj 0 (by omega)
       rw [hgd,hn] at hpj
       have hpj:PR σ (.int .u8 n) (cs.getD (0 + j * 1 + 0) undef):=hpj
       rw [Nat.zero_add,Nat.mul_one,Nat.add_zero] at hpj
       obtain ⟨t1,t2,_⟩:=r6 j (by omega)
       have hcj:cs.getD j undef = .int .u8 n:=by
        generalize cs.getD j undef = c at hpj
        cases hpj; rfl
       rw [hcj] at t2
       have hcg:=zbz7 t2
       have hxn:(x.toNat:Int) = n:=by
        rw [← hnx,UInt8.toNat_ofNat']
        omega
       rw [ti]
       have h6:cg[0 + j]? = some (cg.getD (0 + j) undef):=by simp [Array.getD,t1]
       simp only [World.cell?,r1]
       rw [h6,Nat.zero_add,hcg,hxn]
       simp
     rintro x w' ⟨rfl,rfl⟩
     have hrep2:=zbpj (n:=bs.length) hrep.drew hap
     have nx:(σ.set g (.cells dv cs .ro)).next = σ.next:=rfl
     have oat:∀ k,k ≠ g → (σ.set g (.cells dv cs .ro)).at k = σ.at k:=fun k hkg => σ.at_set_ne _ hkg
     have gat:(σ.set g (.cells dv cs .ro)).at g = .cells dv cs .ro:=σ.at_set_same _ hgl
     have hk:a6 σ (σ.set g (.cells dv cs .ro)):=fun k t2 ds md hkk hm => by
      by_cases hkg:k = g
      · subst hkg; rw [k4] at hkk; cases hkk; exact ⟨.ro,by simp,gat⟩
      · exact ⟨md,hm,by rw [oat k hkg]; exact hkk⟩
     have ne:∀ k,(∀ i,e1.who k ≠ .tok i) → k ≠ g:=by
      intro k hk hkg
      rw [hkg] at hk
      exact hk _ k3
     have nt:∀ k,(∀ i,e1.who k ≠ .tok i) → (e1.who k).noTok = e1.who k:=fun k hk => by
      cases hq:e1.who k with
      | tok i => exact absurd hq (hk i)
      | _ => rfl
     refine ⟨.string ⟨bs.toArray⟩,.string ⟨bs.toArray⟩,m,σ.set g (.cells dv cs .ro),rfl,.refl _,.string _,hrep2,⟨e1.b,e1.n,fun k => if k = g then .none else (e1.who k).noTok⟩,zcd0 (hst.step (tk':=[]) ⟨hk,Nat.le_refl _,fun _ _ => rfl,fun i hi => hi,fun i n' t' hi => absurd hi (Nat.not_lt_zero _)⟩ (Nat.le_refl _) (fun k hkn hkm => ?_) hst.n rfl (fun k hkm => ?_) (fun k hkm => ?_) (fun k i hkm => ?_) (fun k hkn hkm => ?_) (fun i hi => ?_)) (fun k i hki => ?_),.pr (.str _)⟩
     · exact zb3p (ne k fun i hi => hkm (by rw [hi]; trivial))
     · by_cases h2:k = g
       · simp only [if_pos h2] at hkm; exact hkm.elim
       · simp only [if_neg h2] at hkm; exact hst.mine k (zct7 hkm)
     · by_cases h2:k = g
       · simp only [if_pos h2] at hkm; exact absurd rfl hkm
       · simp only [if_neg h2] at hkm; exact hst.wlt k (zch2 hkm)
     · by_cases h2:k = g
       · simp only [if_pos h2] at hkm; rcases hkm with hkm | ⟨_,hkm⟩ <;> cases hkm
       · simp only [if_neg h2,zb7q,zb7v] at hkm; exact hst.wid k i hkm
     · simp only
       rw [if_neg (ne k fun i hi => hkm (by rw [hi]; trivial)),nt k fun i hi => hkm (by rw [hi]; trivial)]
     · obtain ⟨b2,z1,z2⟩:=hst.ob i hi
       refine ⟨b2,z1,ky.step (e:=e1) hk (fun _ _ => rfl) (by have h7:=hst.n; show i + 1 ≤ e1.n; rw [h7]; exact hi) (fun q => oat _ (ne _ (by rw [q]; simp))) (fun q => by simp only; rw [if_neg (ne _ (by rw [q]; simp))]; exact zb7q.2 q) (fun k j hkk => ?_) z2⟩
       have hkg:=ne k (by rw [hkk]; simp)
       exact ⟨by simp only; rw [if_neg hkg]; exact zb7v.2 hkk,oat k hkg⟩
     · by_cases h2:k = g
       · simp only [if_pos h2] at hki; cases hki
       · simp only [if_neg h2] at hki
         cases hq:e1.who k <;> rw [hq] at hki <;> simp [Own.noTok] at hki
 · cases h
end Ic
end Go.Proofs.Ytjgpklmkdkkooaa
namespace Go.Proofs.Ytjgpklmkdkkooaa
open Go Go.RowKit Sh
namespace Ic
section
variable {P:Program} {e:Env} {τ:TH} {σ:ar}
theorem zbwk {σ':ar} (h:HR e τ σ) (hnt:∀ g i,e.who g ≠ .tok i) (hle:σ.le σ'):Aft ⟨σ,e,τ.lock⟩ e τ σ':=by
 have hat:∀ g,g < σ.next → σ'.at g = σ.at g:=fun g hg => hle.at_ hg
 have hk:a6 σ σ':=fun g t cs md hg hm => ⟨md,hm,by rw [hat g (ar.lt_of_at (by rw [hg]; rfl))]; exact hg⟩
 exact {
 hr:={
  n:=h.n
  wlt:=fun g hg => Nat.lt_of_lt_of_le (h.wlt g hg) hle.next
  wid:=h.wid
  ob:=fun id hid => by
   obtain ⟨b',h1,h2⟩:=h.ob id hid
   have hlt:∀ g,e.who g ≠ .none → σ'.at g = σ.at g:=fun g hg => hat g (h.wlt g hg)
   exact ⟨b',h1,h2.step hk (fun _ _ => rfl) (by rw [h.n]; exact hid) (fun q => hlt _ (by rw [q]; simp)) (fun q => q) fun g j hg => ⟨hg,hlt g (by rw [hg]; simp)⟩⟩ }
 nx:=hle.next
 keep:=fun g hg _ => hle.blk g hg
 fro:=hk
 n0:=Nat.le_refl _
 b0:=fun _ _ => rfl
 old:=fun _ _ _ => rfl
 notok:=hnt
 lock:=rfl }
def ra {α:Type} (kv:α → Value) (l:List α):List (Value × Value):=l.map fun a => (kv a,.bool true)
theorem zb7m {α:Type} {kv:α → Value} {kt:TypeId} {l:List α} {a:α} {v:Value} {σ':ar} (hat:σ'.at σ.next = .map (ra kv l)) (hK:Maps.Keyed P kt) (hv:v = .map (some σ.next)) (hf:∀ b,b ∈ a :: l → zawm (kv b) = true ∧ ∃ x,keyOf P kt (kv b) = some x) :
 zb7c P kt σ' v (kv a) (ra kv l) :=
 ⟨σ.next,hv,hat,hK,(hf a (by simp)).1,(hf a (by simp)).2,fun e he => by
  obtain ⟨b,hb,rfl⟩:=List.mem_map.1 he
  exact hf b (by simp [hb])⟩
theorem zbso {σ':ar} (b:Blk) (h:σ.le σ') (hn:σ.next < σ'.next):σ.le (σ'.set σ.next b) ∧ σ.next < (σ'.set σ.next b).next ∧ (σ'.set σ.next b).at σ.next = b :=
 ⟨⟨h.next,fun i hi => by rw [zb3p (Nat.ne_of_lt hi)]; exact h.blk i hi⟩,hn,σ'.at_set_same _ hn⟩
theorem tj {α:Type} {l:List α} {i:Nat} (hi:i < l.length):(l.take (i + 1)).Nodup ↔ (l.take i).Nodup ∧ l[i] ∉ l.take i:=by
 rw [List.take_succ_eq_append_getElem hi,List.nodup_append]
 constructor
 · rintro ⟨h1,_,h3⟩
   exact ⟨h1,fun hm => h3 _ hm _ (by simp) rfl⟩
 · rintro ⟨h1,h2⟩
   refine ⟨h1,by simp,fun a ha b hb => ?_⟩
   simp only [List.mem_singleton] at hb
   subst hb
   rintro rfl
   exact h2 ha
end
end Ic
end Go.Proofs.Ytjgpklmkdkkooaa
namespace Go.Proofs.Ytjgpklmkdkkooaa
open Go Go.RowKit Sh
namespace Ic
def oc (n:Int):Bool:=decide (-9223372036854775808 ≤ n) && decide (n ≤ 9223372036854775807)
def zcgx:TV → Option ByteArray
 | .str s => if s.size ≤ 140737488355328 then some s else none
 | _ => none
def zcgy:TV → Option Int
 | .int .i64 n => if oc n then some n else none
 | _ => none
def zcgz:TV → Option (Int × Int)
 | .agg [.int .i64 a,.int .i64 b] => if oc a && oc b then some (a,b) else none
 | _ => none
def zatm (s:ByteArray):Value:=.string s
def za0j (n:Int):Value:=.int .i64 n
def za0c (p:Int × Int):Value:=.agg #[.int .i64 p.1,.int .i64 p.2]
theorem zch0 {v:TV} {s:ByteArray} (h:zcgx v = some s):v = .str s ∧ s.size ≤ 140737488355328:=by
 unfold zcgx at h
 split at h
 · split at h
   · rename_i hs; injection h with h; subst h; exact ⟨rfl,hs⟩
   · cases h
 · cases h
theorem zchq {v:TV} {n:Int} (h:zcgy v = some n):v = .int .i64 n ∧ oc n = true:=by
 unfold zcgy at h
 split at h
 · split at h
   · rename_i hs; injection h with h; subst h; exact ⟨rfl,hs⟩
   · cases h
 · cases h
theorem zchp {v:TV} {p:Int × Int} (h:zcgz v = some p):v = .agg [.int .i64 p.1,.int .i64 p.2] ∧ (oc p.1 && oc p.2) = true:=by
 unfold zcgz at h
 split at h
 · split at h
   · rename_i hs; injection h with h; subst h; exact ⟨rfl,hs⟩
   · cases h
 · cases h
def zb8x {α:Type} (key:TV → Option α):List TV → Option (List α)
 | [] => some []
 | v :: r => match key v,zb8x key r with
  | some a,some l => some (a :: l)
  | _,_ => none
theorem zcf5 {α:Type} {key:TV → Option α}:∀ {l:List TV} {ks:List α},zb8x key l = some ks → l.length = ks.length ∧ ∀ i (h:i < ks.length),key (l.getD i .undef) = some ks[i]
 | [],ks,h => by injection h with h; subst h; exact ⟨rfl,fun i h => by cases h⟩
 | v :: r,ks,h => by
  simp only [zb8x] at h
  split at h
  · rename_i a l ha hl
    injection h with h; subst h
    obtain ⟨h1,h2⟩:=zcf5 hl
    refine ⟨by simp [h1],fun i hi => ?_⟩
    cases i with
    | zero => exact ha
    | succ i => exact h2 i (Nat.lt_of_succ_lt_succ hi)
  · cases h
theorem zcf6 {α β:Type} {key:TV → Option α} {f:β → TV} {g:β → α}:∀ (l:List β),(∀ b ∈ l,key (f b) = some (g b)) → zb8x key (l.map f) = some (l.map g)
 | [],_ => rfl
 | b :: r,h => by
  simp only [List.map_cons,zb8x,h b (by simp),zcf6 r fun c hc => h c (by simp [hc])]
def zbxv {α:Type} [DecidableEq α] (key:TV → Option α) (args:List TV) (τ:TH):Option (TV × TH) :=
 match args with
 | [v] => match v.list with
  | some l => if l.length ≤ 140737488355328 then (zb8x key l).map fun ks => (.bool (decide ks.Nodup),τ) else none
  | none => none
 | _ => none
def zbty:=zbxv zcgx
def zbtz:=zbxv zcgy
def zbt0:=zbxv zcgz
theorem zcmu {n:Int} (h:oc n = true):(Lit.int .i64 n).wf = true:=by
 unfold oc at h
 simp only [Bool.and_eq_true,decide_eq_true_eq] at h
 obtain ⟨h1,h2⟩:=h
 simp only [Lit.wf,IntKind.min,IntKind.max,IntKind.signed,IntKind.bits]
 simp
 omega
theorem zbuq:Maps.Keyed Try.prog a9:=Maps.string_keyed (by kernel_rfl)
theorem zcnh (s:ByteArray) (h:s.size ≤ 140737488355328):zawm (zatm s) = true ∧ ∃ x,keyOf Try.prog a9 (zatm s) = some x:=by
 have hu:Try.prog.underlying a9 = some .string:=by kernel_rfl
 refine ⟨rfl,.string s.data.toList,?_⟩
 simp only [keyOf,hu,mapKey,zatm]
 rw [if_pos (by unfold maxLen; omega)]
theorem zbtv {σ:ar} {w0:Value} {ks:List ByteArray} (hlen:ks.length ≤ 9223372036854775806) (hw:∃ a s,w0 = .slice a ks.length s) (hk:∀ a ∈ ks,zawm (zatm a) = true ∧ ∃ x,keyOf Try.prog a9 (zatm a) = some x) (hinj:∀ a b:ByteArray,zatm a = zatm b → a = b)
 (hrow:ks ≠ [] → ∃ g o,w0 = .slice (some ⟨g,o,none⟩) ks.length 1 ∧ ∀ i (h:i < ks.length),σ.load g (o + i * 1) = some (zatm ks[i]))
 (Post:Value → ar → Prop) (hP:∀ σ',σ.le σ' → Post (.bool (decide ks.Nodup)) σ'):pq Try.prog jq [w0] σ Post:=by
 refine zcgi zdk9 (by simp) ?_
 obtain ⟨a0,s0,hw0⟩:=hw
 simp only [uk,zx,zw,zv,zm,TC.erase,List.map_cons,List.map_nil,evC,evL,zbxu,evI,zbz0,zbxa,t,ci,evO,zbxt,Fr.put,List.getD_cons_zero,reduceIte,Option.some.injEq,Nat.reduceEqDiff,reduceCtorEq,hw0,zby7]
 refine zcei (fun (i:Nat) fr σ' => i ≤ ks.length ∧ fr 3 = .map (some σ.next) ∧ fr 7 = w0 ∧ fr 8 = .int .i64 ks.length ∧ fr 9 = .int .i64 ((ks.length - i:Nat):Int) ∧ (σ.le σ' ∧ σ.next < σ'.next ∧ σ'.at σ.next = .map (ra zatm (ks.take (ks.length - i)))) ∧ (ks.take (ks.length - i)).Nodup) id ks.length ⟨Nat.le_refl _,?_⟩ ?_
 · refine ⟨rfl,hw0.symm,rfl,?_,?_,?_⟩
   · rw [Nat.sub_self]; rfl
   · rw [Nat.sub_self]; exact ⟨σ.le_push _,Nat.lt_succ_self _,σ.at_push_new _⟩
   · rw [Nat.sub_self]; simp
 rintro i fr σ' ⟨hi,f3,f7,f8,f9,⟨hle,hnx,hat⟩,hnd⟩
 have hlt0:ks.length - i ≤ ks.length:=Nat.sub_le _ _
 simp only [zc5o,zu,zt,zq,zp,zo,zn,TC.erase,List.map_cons,List.map_nil,evC,evL,zbxu,evI,zbz0,zbxa,t,ci,evO,Fr.put,reduceIte,Option.some.injEq,Nat.reduceEqDiff,reduceCtorEq,f3,f7,f8,f9,dx,n7,vc,za5c,be]
 by_cases h0:i = 0
 · subst h0
   rw [Nat.sub_zero,List.take_length] at hnd
   have c:decide (((ks.length - 0:Nat):Int) < (ks.length:Int)) = false:=by simp
   rw [c]
   refine ⟨fun h => (nomatch h),fun _ => ?_⟩
   simp only [zbw8,zbc2,zap7,vc,Fr.put,reduceIte]
   have:=hP σ' hle
   rw [show decide ks.Nodup = true from decide_eq_true hnd] at this
   exact this
 · have hj:ks.length - i < ks.length:=by omega
   have c:decide (((ks.length - i:Nat):Int) < (ks.length:Int)) = true:=decide_eq_true (by omega)
   rw [c]
   refine ⟨fun _ => ?_,fun h => (nomatch h)⟩
   obtain ⟨g,o,hw1,hcell⟩:=hrow (fun h => by rw [h] at hj; cases hj)
   have hc:=hcell _ hj
   generalize hJ:ks.length - i = j at *
   have hgl:g < σ.next:=by
    refine ar.lt_of_at ?_
    unfold ar.load at hc
    cases hq:σ.at g with
    | dead => rw [hq] at hc; cases hc
    | map es => rw [hq] at hc; cases hc
    | cells t cs md => rfl
   have hc2:σ'.load g (o + j * 1) = some (zatm ks[j]):=by
    unfold ar.load at hc ⊢
    rw [hle.at_ hgl]
    exact hc
   have hkk:∀ b,b ∈ ks[j] :: ks.take j → zawm (zatm b) = true ∧ ∃ x,keyOf Try.prog a9 (zatm b) = some x:=fun b hb => by
    rcases List.mem_cons.1 hb with rfl | hb
    · exact hk _ (List.getElem_mem _)
    · exact hk _ (List.mem_of_mem_take hb)
   have w1:IntKind.i64.wrap ((j:Int) + 1) = ((j + 1:Nat):Int):=by rw [IntKind.wrap_i64]; omega
   simp only [hw1,kSl]
   refine ⟨⟨by omega,by omega⟩,?_⟩
   simp only [Int.toNat_natCast,eg,hc2,vc]
   refine ⟨_,zb7m (kv:=zatm) (a:=ks[j]) hat zbuq rfl hkk,fun e1 he1 hq => ?_,fun hno => ?_⟩
   · obtain ⟨b,hb,rfl⟩:=List.mem_map.1 he1
     have hab:=hinj _ _ hq
     subst hab
     refine ⟨fun _ => ?_,fun h => (nomatch h)⟩
     simp only [zbw8,zbc2,zap7,vc,Fr.put,reduceIte,Option.some.injEq,Nat.reduceEqDiff,reduceCtorEq]
     have hnn:¬ ks.Nodup:=fun hd => by
      have:=(List.Sublist.nodup (List.take_sublist (j + 1) ks) hd)
      exact ((tj hj).1 this).2 hb
     have:=hP σ' hle
     rw [show decide ks.Nodup = false from decide_eq_false hnn] at this
     exact this
   · refine ⟨fun h => (nomatch h),fun _ => ?_⟩
     skip
     refine ⟨_,σ.next,zb7m (kv:=zatm) (a:=ks[j]) hat zbuq rfl hkk,rfl,hno,?_⟩
     have hni:ks[j] ∉ ks.take j:=fun hm => hno _ (List.mem_map.2 ⟨_,hm,rfl⟩) rfl
     refine ⟨i - 1,by simp only [id]; omega,by omega,?_⟩
     refine ⟨trivial,trivial,trivial,?_,?_,?_⟩
     · rw [w1]; congr 2; omega
     · have e1:ks.length - (i - 1) = j + 1:=by omega
       rw [e1,List.take_succ_eq_append_getElem hj]
       simp only [ra,List.map_append,List.map_cons,List.map_nil]
       exact zbso _ hle hnx
     · have e1:ks.length - (i - 1) = j + 1:=by omega
       rw [e1]
       exact (tj hj).2 ⟨hnd,hni⟩
theorem zdg4:∀ args τ r τ',zbty args τ = some (r,τ') → zbxs Try.prog jq args τ r τ':=by
 intro args τ r τ' h σ e ws hr hnt hlen hargs
 unfold zbty zbxv at h
 split at h
 · rename_i v
   split at h
   · rename_i l hl
     by_cases hbound:l.length ≤ 140737488355328
     rotate_left
     · rw [if_neg hbound] at h; cases h
     rw [if_pos hbound] at h
     obtain ⟨ks,has,he⟩:=Option.map_eq_some_iff.1 h
     simp only [Prod.mk.injEq] at he
     obtain ⟨rfl,rfl⟩:=he
     obtain ⟨w0,rfl⟩:∃ w0,ws = [w0]:=List.length_eq_one_iff.1 (by simpa using hlen.symm)
     have ht:=hargs 0 (by simp)
     simp only [List.getD_cons_zero] at ht
     have hp:=zbcu hl ht
     obtain ⟨m1,m2⟩:=zcf5 has
     have hkey:∀ a ∈ ks,zawm (zatm a) = true ∧ ∃ x,keyOf Try.prog a9 (zatm a) = some x:=fun a ha => by
      obtain ⟨i,hi,rfl⟩:=List.mem_iff_getElem.1 ha
      exact zcnh _ (zch0 (m2 i hi)).2
     refine zbtv ?_ ?_ hkey (fun a b hab => ?_) (fun hne => ?_) _ fun σ' hle => ⟨e,zbwk hr hnt hle,.pr (.bool _)⟩
     · rw [← m1]; omega
     · rw [← m1]; exact zb9n hp
     · injection hab
     · have hne':l ≠ []:=fun h0 => hne (List.eq_nil_of_length_eq_zero (by rw [← m1,h0]; rfl))
       obtain ⟨g,o,s,t',cs,md,q0,q1,q2,q3,q4,q5,q6⟩:=ye hne' hp
       have h00:0 < l.length:=by cases l with | nil => exact absurd rfl hne' | cons => simp
       have hs:s = 1:=by
        rw [← q4 0 h00,(zch0 (m2 0 (by omega))).1]; rfl
       subst hs
       refine ⟨g,o,by rw [q6,m1],fun i hi => ?_⟩
       have hi':i < l.length:=by omega
       have hle:(i + 1) * 1 ≤ l.length * 1:=Nat.mul_le_mul_right _ hi'
       have:=q5 i hi' 0 (by omega)
       rw [(zch0 (m2 i hi)).1] at this
       have hlt:o + i * 1 < cs.length:=by omega
       unfold ar.load
       rw [q1]
       simp only
       rw [zb7l undef hlt]
       rw [Nat.add_zero] at this
       generalize cs.getD (o + i * 1) undef = c at this
       cases this
       rfl
   · cases h
 · cases h
theorem zbur:Maps.Keyed Try.prog jy:=Maps.int_keyed (q:=.i64) (by kernel_rfl)
theorem zcni (n:Int) (h:oc n = true):zawm (za0j n) = true ∧ ∃ x,keyOf Try.prog jy (za0j n) = some x:=by
 have hu:Try.prog.underlying jy = some (.int .i64):=by kernel_rfl
 exact ⟨rfl,_,Maps.keyOf_int_mk hu (zcmu h)⟩
theorem zbtw {σ:ar} {w0:Value} {ks:List Int} (hlen:ks.length ≤ 9223372036854775806) (hw:∃ a s,w0 = .slice a ks.length s) (hk:∀ a ∈ ks,zawm (za0j a) = true ∧ ∃ x,keyOf Try.prog jy (za0j a) = some x) (hinj:∀ a b:Int,za0j a = za0j b → a = b)
 (hrow:ks ≠ [] → ∃ g o,w0 = .slice (some ⟨g,o,none⟩) ks.length 1 ∧ ∀ i (h:i < ks.length),σ.load g (o + i * 1) = some (za0j ks[i]))
 (Post:Value → ar → Prop) (hP:∀ σ',σ.le σ' → Post (.bool (decide ks.Nodup)) σ'):pq Try.prog ny [w0] σ Post:=by
 refine zcgi zdjd (by simp) ?_
 obtain ⟨a0,s0,hw0⟩:=hw
 simp only [zc6z,zc6c,zc6d,zc6e,zc6l,TC.erase,List.map_cons,List.map_nil,evC,evL,zbxu,evI,zbz0,zbxa,t,ci,evO,zbxt,Fr.put,List.getD_cons_zero,reduceIte,Option.some.injEq,Nat.reduceEqDiff,reduceCtorEq,hw0,zby7]
 refine zcei (fun (i:Nat) fr σ' => i ≤ ks.length ∧ fr 3 = .map (some σ.next) ∧ fr 7 = w0 ∧ fr 8 = .int .i64 ks.length ∧ fr 9 = .int .i64 ((ks.length - i:Nat):Int) ∧ (σ.le σ' ∧ σ.next < σ'.next ∧ σ'.at σ.next = .map (ra za0j (ks.take (ks.length - i)))) ∧ (ks.take (ks.length - i)).Nodup) id ks.length ⟨Nat.le_refl _,?_⟩ ?_
 · refine ⟨rfl,hw0.symm,rfl,?_,?_,?_⟩
   · rw [Nat.sub_self]; rfl
   · rw [Nat.sub_self]; exact ⟨σ.le_push _,Nat.lt_succ_self _,σ.at_push_new _⟩
   · rw [Nat.sub_self]; simp
 rintro i fr σ' ⟨hi,f3,f7,f8,f9,⟨hle,hnx,hat⟩,hnd⟩
 have hlt0:ks.length - i ≤ ks.length:=Nat.sub_le _ _
 simp only [zc20,zc6f,zc6g,zc6h,zc6i,zc6j,zc6k,TC.erase,List.map_cons,List.map_nil,evC,evL,zbxu,evI,zbz0,zbxa,t,ci,evO,Fr.put,reduceIte,Option.some.injEq,Nat.reduceEqDiff,reduceCtorEq,f3,f7,f8,f9,dx,n7,vc,za5c,be]
 by_cases h0:i = 0
 · subst h0
   rw [Nat.sub_zero,List.take_length] at hnd
   have c:decide (((ks.length - 0:Nat):Int) < (ks.length:Int)) = false:=by simp
   rw [c]
   refine ⟨fun h => (nomatch h),fun _ => ?_⟩
   simp only [zbw8,zbc2,zap7,vc,Fr.put,reduceIte]
   have:=hP σ' hle
   rw [show decide ks.Nodup = true from decide_eq_true hnd] at this
   exact this
 · have hj:ks.length - i < ks.length:=by omega
   have c:decide (((ks.length - i:Nat):Int) < (ks.length:Int)) = true:=decide_eq_true (by omega)
   rw [c]
   refine ⟨fun _ => ?_,fun h => (nomatch h)⟩
   obtain ⟨g,o,hw1,hcell⟩:=hrow (fun h => by rw [h] at hj; cases hj)
   have hc:=hcell _ hj
   generalize hJ:ks.length - i = j at *
   have hgl:g < σ.next:=by
    refine ar.lt_of_at ?_
    unfold ar.load at hc
    cases hq:σ.at g with
    | dead => rw [hq] at hc; cases hc
    | map es => rw [hq] at hc; cases hc
    | cells t cs md => rfl
   have hc2:σ'.load g (o + j * 1) = some (za0j ks[j]):=by
    unfold ar.load at hc ⊢
    rw [hle.at_ hgl]
    exact hc
   have hkk:∀ b,b ∈ ks[j] :: ks.take j → zawm (za0j b) = true ∧ ∃ x,keyOf Try.prog jy (za0j b) = some x:=fun b hb => by
    rcases List.mem_cons.1 hb with rfl | hb
    · exact hk _ (List.getElem_mem _)
    · exact hk _ (List.mem_of_mem_take hb)
   have w1:IntKind.i64.wrap ((j:Int) + 1) = ((j + 1:Nat):Int):=by rw [IntKind.wrap_i64]; omega
   simp only [hw1,kSl]
   refine ⟨⟨by omega,by omega⟩,?_⟩
   simp only [Int.toNat_natCast,eg,hc2,vc]
   refine ⟨_,zb7m (kv:=za0j) (a:=ks[j]) hat zbur rfl hkk,fun e1 he1 hq => ?_,fun hno => ?_⟩
   · obtain ⟨b,hb,rfl⟩:=List.mem_map.1 he1
     have hab:=hinj _ _ hq
     subst hab
     refine ⟨fun _ => ?_,fun h => (nomatch h)⟩
     simp only [zbw8,zbc2,zap7,vc,Fr.put,reduceIte,Option.some.injEq,Nat.reduceEqDiff,reduceCtorEq]
     have hnn:¬ ks.Nodup:=fun hd => by
      have:=(List.Sublist.nodup (List.take_sublist (j + 1) ks) hd)
      exact ((tj hj).1 this).2 hb
     have:=hP σ' hle
     rw [show decide ks.Nodup = false from decide_eq_false hnn] at this
     exact this
   · refine ⟨fun h => (nomatch h),fun _ => ?_⟩
     skip
     refine ⟨_,σ.next,zb7m (kv:=za0j) (a:=ks[j]) hat zbur rfl hkk,rfl,hno,?_⟩
     have hni:ks[j] ∉ ks.take j:=fun hm => hno _ (List.mem_map.2 ⟨_,hm,rfl⟩) rfl
     refine ⟨i - 1,by simp only [id]; omega,by omega,?_⟩
     refine ⟨trivial,trivial,trivial,?_,?_,?_⟩
     · rw [w1]; congr 2; omega
     · have e1:ks.length - (i - 1) = j + 1:=by omega
       rw [e1,List.take_succ_eq_append_getElem hj]
       simp only [ra,List.map_append,List.map_cons,List.map_nil]
       exact zbso _ hle hnx
     · have e1:ks.length - (i - 1) = j + 1:=by omega
       rw [e1]
       exact (tj hj).2 ⟨hnd,hni⟩
theorem zdgs:∀ args τ r τ',zbtz args τ = some (r,τ') → zbxs Try.prog ny args τ r τ':=by
 intro args τ r τ' h σ e ws hr hnt hlen hargs
 unfold zbtz zbxv at h
 split at h
 · rename_i v
   split at h
   · rename_i l hl
     by_cases hbound:l.length ≤ 140737488355328
     rotate_left
     · rw [if_neg hbound] at h; cases h
     rw [if_pos hbound] at h
     obtain ⟨ks,has,he⟩:=Option.map_eq_some_iff.1 h
     simp only [Prod.mk.injEq] at he
     obtain ⟨rfl,rfl⟩:=he
     obtain ⟨w0,rfl⟩:∃ w0,ws = [w0]:=List.length_eq_one_iff.1 (by simpa using hlen.symm)
     have ht:=hargs 0 (by simp)
     simp only [List.getD_cons_zero] at ht
     have hp:=zbcu hl ht
     obtain ⟨m1,m2⟩:=zcf5 has
     have hkey:∀ a ∈ ks,zawm (za0j a) = true ∧ ∃ x,keyOf Try.prog jy (za0j a) = some x:=fun a ha => by
      obtain ⟨i,hi,rfl⟩:=List.mem_iff_getElem.1 ha
      exact zcni _ (zchq (m2 i hi)).2
     refine zbtw ?_ ?_ hkey (fun a b hab => ?_) (fun hne => ?_) _ fun σ' hle => ⟨e,zbwk hr hnt hle,.pr (.bool _)⟩
     · rw [← m1]; omega
     · rw [← m1]; exact zb9n hp
     · injection hab
     · have hne':l ≠ []:=fun h0 => hne (List.eq_nil_of_length_eq_zero (by rw [← m1,h0]; rfl))
       obtain ⟨g,o,s,t',cs,md,q0,q1,q2,q3,q4,q5,q6⟩:=ye hne' hp
       have h00:0 < l.length:=by cases l with | nil => exact absurd rfl hne' | cons => simp
       have hs:s = 1:=by
        rw [← q4 0 h00,(zchq (m2 0 (by omega))).1]; rfl
       subst hs
       refine ⟨g,o,by rw [q6,m1],fun i hi => ?_⟩
       have hi':i < l.length:=by omega
       have hle:(i + 1) * 1 ≤ l.length * 1:=Nat.mul_le_mul_right _ hi'
       have:=q5 i hi' 0 (by omega)
       rw [(zchq (m2 i hi)).1] at this
       have hlt:o + i * 1 < cs.length:=by omega
       unfold ar.load
       rw [q1]
       simp only
       rw [zb7l undef hlt]
       rw [Nat.add_zero] at this
       generalize cs.getD (o + i * 1) undef = c at this
       cases this
       rfl
   · cases h
 · cases h
theorem zcc4:WideMaps.ArrKey Try.prog uc jy 2:=⟨by kernel_rfl,by kernel_rfl,by kernel_rfl,by kernel_rfl⟩
theorem zbus:Maps.Keyed Try.prog uc:=Maps.Keyed.of_law zcc4.law
theorem zcnj (p:Int × Int) (h:(oc p.1 && oc p.2) = true):zawm (za0c p) = true ∧ ∃ x,keyOf Try.prog uc (za0c p) = some x:=by
 simp only [Bool.and_eq_true] at h
 have hu:Try.prog.underlying jy = some (.int .i64):=by kernel_rfl
 exact ⟨rfl,_,WideMaps.keyOf_pair zcc4 hu ⟨Try.prog.types.size - 1,by kernel_rfl⟩ (zcmu h.1) (zcmu h.2)⟩
theorem zbtx {σ:ar} {w0:Value} {ks:List (Int × Int)} (hlen:ks.length ≤ 9223372036854775806) (hw:∃ a s,w0 = .slice a ks.length s) (hk:∀ a ∈ ks,zawm (za0c a) = true ∧ ∃ x,keyOf Try.prog uc (za0c a) = some x) (hinj:∀ a b:(Int × Int),za0c a = za0c b → a = b)
 (hrow:ks ≠ [] → ∃ g o,w0 = .slice (some ⟨g,o,none⟩) ks.length 2 ∧ ∀ i (h:i < ks.length),σ.row g (o + i * 2) 2 = some [.int .i64 ks[i].1,.int .i64 ks[i].2])
 (Post:Value → ar → Prop) (hP:∀ σ',σ.le σ' → Post (.bool (decide ks.Nodup)) σ'):pq Try.prog lw [w0] σ Post:=by
 refine zcgi zdkr (by simp) ?_
 obtain ⟨a0,s0,hw0⟩:=hw
 simp only [vu,zc60,zc61,zc62,zc69,TC.erase,List.map_cons,List.map_nil,evC,evL,zbxu,evI,zbz0,zbxa,t,ci,evO,zbxt,Fr.put,List.getD_cons_zero,reduceIte,Option.some.injEq,Nat.reduceEqDiff,reduceCtorEq,hw0,zby7]
 refine zcei (fun (i:Nat) fr σ' => i ≤ ks.length ∧ fr 3 = .map (some σ.next) ∧ fr 7 = w0 ∧ fr 8 = .int .i64 ks.length ∧ fr 9 = .int .i64 ((ks.length - i:Nat):Int) ∧ (σ.le σ' ∧ σ.next < σ'.next ∧ σ'.at σ.next = .map (ra za0c (ks.take (ks.length - i)))) ∧ (ks.take (ks.length - i)).Nodup) id ks.length ⟨Nat.le_refl _,?_⟩ ?_
 · refine ⟨rfl,hw0.symm,rfl,?_,?_,?_⟩
   · rw [Nat.sub_self]; rfl
   · rw [Nat.sub_self]; exact ⟨σ.le_push _,Nat.lt_succ_self _,σ.at_push_new _⟩
   · rw [Nat.sub_self]; simp
 rintro i fr σ' ⟨hi,f3,f7,f8,f9,⟨hle,hnx,hat⟩,hnd⟩
 have hlt0:ks.length - i ≤ ks.length:=Nat.sub_le _ _
 simp only [zc5e,zc63,zc64,zc65,zc66,zc67,zc68,TC.erase,List.map_cons,List.map_nil,evC,evL,zbxu,evI,zbz0,zbxa,t,ci,evO,Fr.put,reduceIte,Option.some.injEq,Nat.reduceEqDiff,reduceCtorEq,f3,f7,f8,f9,dx,n7,vc,za5c,be]
 by_cases h0:i = 0
 · subst h0
   rw [Nat.sub_zero,List.take_length] at hnd
   have c:decide (((ks.length - 0:Nat):Int) < (ks.length:Int)) = false:=by simp
   rw [c]
   refine ⟨fun h => (nomatch h),fun _ => ?_⟩
   simp only [zbw8,zbc2,zap7,vc,Fr.put,reduceIte]
   have:=hP σ' hle
   rw [show decide ks.Nodup = true from decide_eq_true hnd] at this
   exact this
 · have hj:ks.length - i < ks.length:=by omega
   have c:decide (((ks.length - i:Nat):Int) < (ks.length:Int)) = true:=decide_eq_true (by omega)
   rw [c]
   refine ⟨fun _ => ?_,fun h => (nomatch h)⟩
   obtain ⟨g,o,hw1,hcell⟩:=hrow (fun h => by rw [h] at hj; cases hj)
   have hc:=hcell _ hj
   generalize hJ:ks.length - i = j at *
   have hgl:g < σ.next:=by
    refine ar.lt_of_at ?_
    unfold ar.row at hc
    cases hq:σ.at g with
    | dead => rw [hq] at hc; cases hc
    | map es => rw [hq] at hc; cases hc
    | cells t cs md => rfl
   have hc2:σ'.row g (o + j * 2) 2 = some [.int .i64 ks[j].1,.int .i64 ks[j].2]:=by
    unfold ar.row at hc ⊢
    rw [hle.at_ hgl]
    exact hc
   have hkk:∀ b,b ∈ ks[j] :: ks.take j → zawm (za0c b) = true ∧ ∃ x,keyOf Try.prog uc (za0c b) = some x:=fun b hb => by
    rcases List.mem_cons.1 hb with rfl | hb
    · exact hk _ (List.getElem_mem _)
    · exact hk _ (List.mem_of_mem_take hb)
   have w1:IntKind.i64.wrap ((j:Int) + 1) = ((j + 1:Nat):Int):=by rw [IntKind.wrap_i64]; omega
   simp only [hw1,kSl]
   refine ⟨⟨by omega,by omega⟩,?_⟩
   simp only [Int.toNat_natCast,eg,hc2,vc]
   refine ⟨fun k hk => ?_,?_⟩
   · have:k < 2:=hk
     match k,this with
     | 0,_ => rfl
     | 1,_ => rfl
   have hst:=zcib (σ:=σ'.push (.cells uc [.int .i64 0,.int .i64 0] .rw)) (g:=σ'.next) (t:=uc) [.int .i64 ks[j].1,.int .i64 ks[j].2] [.int .i64 0,.int .i64 0] 0 (σ'.at_push_new _) (by simp) (fun v hv => by
    simp only [List.mem_cons,List.not_mem_nil,or_false] at hv
    rcases hv with rfl | rfl <;> rfl) (by simp)
   refine ⟨rfl,?_⟩
   generalize hs2:(σ'.push (.cells uc [.int .i64 0,.int .i64 0] .rw)).set σ'.next (.cells uc (rr [.int .i64 0,.int .i64 0] 0 [.int .i64 ks[j].1,.int .i64 ks[j].2]) .rw) = σ2 at hst
   have hst':(σ'.push (.cells uc (Value.agg { toList:=[.int .i64 0,.int .i64 0] }).cells.toList .rw)).store σ'.next 0 (Value.agg { toList:=[.int .i64 ks[j].1,.int .i64 ks[j].2] }).cells.toList = some σ2:=hst
   rw [hst']
   have le2:σ'.le σ2:=by
    rw [← hs2]
    exact ⟨Nat.le_succ _,fun i hi => by rw [zb3p (Nat.ne_of_lt hi),zbxj hi]⟩
   have hle2:σ.le σ2:=hle.trans le2
   have hnx2:σ.next < σ2.next:=Nat.lt_of_lt_of_le hnx le2.next
   have hat2:σ2.at σ.next = .map (ra za0c (ks.take j)):=by rw [le2.at_ hnx]; exact hat
   have hrw:σ2.row σ'.next 0 2 = some [.int .i64 ks[j].1,.int .i64 ks[j].2]:=by
    have:σ2.at σ'.next = .cells uc [.int .i64 ks[j].1,.int .i64 ks[j].2] .rw:=by
     rw [← hs2]; exact ar.at_set_same _ _ (Nat.lt_succ_self _)
    rw [zb3z this (by simp)]; rfl
   simp only [hrw]
   refine ⟨_,zb7m (kv:=za0c) (a:=ks[j]) hat2 zbus rfl hkk,fun e1 he1 hq => ?_,fun hno => ?_⟩
   · obtain ⟨b,hb,rfl⟩:=List.mem_map.1 he1
     have hab:=hinj _ _ hq
     subst hab
     refine ⟨fun _ => ?_,fun h => (nomatch h)⟩
     simp only [zbw8,zbc2,zap7,vc,Fr.put,reduceIte,Option.some.injEq,Nat.reduceEqDiff,reduceCtorEq]
     have hnn:¬ ks.Nodup:=fun hd => by
      have:=(List.Sublist.nodup (List.take_sublist (j + 1) ks) hd)
      exact ((tj hj).1 this).2 hb
     have:=hP σ2 hle2
     rw [show decide ks.Nodup = false from decide_eq_false hnn] at this
     exact this
   · refine ⟨fun h => (nomatch h),fun _ => ?_⟩
     skip
     refine ⟨_,σ.next,zb7m (kv:=za0c) (a:=ks[j]) hat2 zbus rfl hkk,rfl,hno,?_⟩
     have hni:ks[j] ∉ ks.take j:=fun hm => hno _ (List.mem_map.2 ⟨_,hm,rfl⟩) rfl
     refine ⟨i - 1,by simp only [id]; omega,by omega,?_⟩
     refine ⟨trivial,trivial,trivial,?_,?_,?_⟩
     · rw [w1]; congr 2; omega
     · have e1:ks.length - (i - 1) = j + 1:=by omega
       rw [e1,List.take_succ_eq_append_getElem hj]
       simp only [ra,List.map_append,List.map_cons,List.map_nil]
       exact zbso _ hle2 hnx2
     · have e1:ks.length - (i - 1) = j + 1:=by omega
       rw [e1]
       exact (tj hj).2 ⟨hnd,hni⟩
theorem zdg1:∀ args τ r τ',zbt0 args τ = some (r,τ') → zbxs Try.prog lw args τ r τ':=by
 intro args τ r τ' h σ e ws hr hnt hlen hargs
 unfold zbt0 zbxv at h
 split at h
 · rename_i v
   split at h
   · rename_i l hl
     by_cases hbound:l.length ≤ 140737488355328
     rotate_left
     · rw [if_neg hbound] at h; cases h
     rw [if_pos hbound] at h
     obtain ⟨ks,has,he⟩:=Option.map_eq_some_iff.1 h
     simp only [Prod.mk.injEq] at he
     obtain ⟨rfl,rfl⟩:=he
     obtain ⟨w0,rfl⟩:∃ w0,ws = [w0]:=List.length_eq_one_iff.1 (by simpa using hlen.symm)
     have ht:=hargs 0 (by simp)
     simp only [List.getD_cons_zero] at ht
     have hp:=zbcu hl ht
     obtain ⟨m1,m2⟩:=zcf5 has
     have hkey:∀ a ∈ ks,zawm (za0c a) = true ∧ ∃ x,keyOf Try.prog uc (za0c a) = some x:=fun a ha => by
      obtain ⟨i,hi,rfl⟩:=List.mem_iff_getElem.1 ha
      exact zcnj _ (zchp (m2 i hi)).2
     refine zbtx ?_ ?_ hkey (fun a b hab => ?_) (fun hne => ?_) _ fun σ' hle => ⟨e,zbwk hr hnt hle,.pr (.bool _)⟩
     · rw [← m1]; omega
     · rw [← m1]; exact zb9n hp
     · simp only [za0c,Value.agg.injEq,Array.mk.injEq,List.cons.injEq,Value.int.injEq,true_and,and_true] at hab; exact Prod.ext hab.1 hab.2
     · have hne':l ≠ []:=fun h0 => hne (List.eq_nil_of_length_eq_zero (by rw [← m1,h0]; rfl))
       obtain ⟨g,o,s,t',cs,md,q0,q1,q2,q3,q4,q5,q6⟩:=ye hne' hp
       have h00:0 < l.length:=by cases l with | nil => exact absurd rfl hne' | cons => simp
       have hs:s = 2:=by
        rw [← q4 0 h00,(zchp (m2 0 (by omega))).1]; rfl
       subst hs
       refine ⟨g,o,by rw [q6,m1],fun i hi => ?_⟩
       have hi':i < l.length:=by omega
       have hle:(i + 1) * 2 ≤ l.length * 2:=Nat.mul_le_mul_right _ hi'
       have h0:=q5 i hi' 0 (by omega)
       have h1:=q5 i hi' 1 (by omega)
       rw [(zchp (m2 i hi)).1] at h0 h1
       rw [zb3z q1 (by omega)]
       have e1:((cs.drop (o + i * 2)).take 2).length = 2:=by simp; omega
       obtain ⟨c0,c1,hcc⟩:∃ c0 c1,(cs.drop (o + i * 2)).take 2 = [c0,c1]:=by
        match hq:(cs.drop (o + i * 2)).take 2,e1 with
        | [a,b],_ => exact ⟨a,b,rfl⟩
       have g0:=gm cs (o + i * 2) 2 0 undef (by omega)
       have g1:=gm cs (o + i * 2) 2 1 undef (by omega)
       rw [hcc] at g0 g1 ⊢
       simp only [List.getD_cons_zero,List.getD_cons_succ] at g0 g1
       rw [← g0] at h0
       rw [← g1] at h1
       have h0:PR σ (.int .i64 ks[i].1) c0:=h0
       have h1:PR σ (.int .i64 ks[i].2) c1:=h1
       cases h0
       cases h1
       rfl
   · cases h
 · cases h
end Ic
end Go.Proofs.Ytjgpklmkdkkooaa
