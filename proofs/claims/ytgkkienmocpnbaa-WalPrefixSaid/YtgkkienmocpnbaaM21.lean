import Derived.RangeFuncNested
import Derived.RangeFuncBound
import Derived.RangeFuncCalls
import Derived.RangeFuncLeaves
import Derived.RangeFuncBox
import Derived.Shelf.Abstract
import Derived.Shelf.RegionOpen
import Derived.WalkKit
import Derived.OwnWalkIn
import Derived.TacticsInMore
import Derived.LoopNIn
import Derived.LoopIn
import Derived.Maps.AppendAt
import Derived.Test.YtgkkienmocpnbaaTcG
import Derived.Test.YtgkkienmocpnbaaM13
import Derived.Laws.AppendOwn
import Derived.Test.YtgkkienmocpnbaaM20
set_option linter.unusedVariables false
set_option linter.unusedSimpArgs false
set_option linter.unusedSectionVars false
namespace Go.Proofs.Ytgkkienmocpnbaa.Wl
open Go Go.RowKit
structure Asd (B:Nat) (w w':World):Prop where
 os:w'.os = w.os
 tape:w'.tape = w.tape
 output:w'.output = w.output
 size:w.heap.size ≤ w'.heap.size
 block:∀ k,k < w.heap.size → k ≠ B → w'.heap[k]? = w.heap[k]?
theorem Asd.refl (B:Nat) (w:World):Asd B w w:=⟨rfl,rfl,rfl,Nat.le_refl _,fun _ _ _ => rfl⟩
theorem Asd.trans {B:Nat} {a b c:World} (h:Asd B a b) (k:Asd B b c):Asd B a c :=
 ⟨k.os.trans h.os,k.tape.trans h.tape,k.output.trans h.output,Nat.le_trans h.size k.size,fun i hi hb => (k.block i (Nat.lt_of_lt_of_le hi h.size) hb).trans (h.block i hi hb)⟩
theorem Asd.of_below {B:Nat} {a b:World} (h:Below a.heap.size a b):Asd B a b:=⟨h.os,h.tape,h.output,h.size,fun k hk _ => h.block k hk⟩
theorem Asd.set (B:Nat) (w:World) (v:Value):Asd B w (w.setCell ⟨B,0,none⟩ v) :=
 ⟨rfl,rfl,rfl,(KeepsWalks.setCell w _ v).size,fun k _ hk => Below.heap_setCell _ _ _ k hk⟩
structure Asc (n₀ B:Nat) (w w':World):Prop where
 below:Below n₀ w w'
 cells:∀ (k:Nat) (o:Obj),w.heap[k]? = some o → o.isCells = true → k ≠ B → w'.heap[k]? = some o
theorem Asd.asc {n₀ B:Nat} {a b:World} (h:Asd B a b) (h1:n₀ ≤ B) (h2:n₀ ≤ a.heap.size):Asc n₀ B a b :=
 ⟨⟨h.os,h.tape,h.output,h.size,fun k hk => h.block k (by omega) (by omega)⟩,fun k o hk _ hb => (h.block k (Array.getElem?_eq_some_iff.1 hk).1 hb).trans hk⟩
theorem Asc.putObj {n₀ B l:Nat} {W:World} {o:Obj} (o':Obj) (hn:n₀ ≤ l) (hl:W.heap[l]? = some o) (ho:o.isCells = false):Asc n₀ B W (W.putObj l o') :=
 ⟨(Below.refl n₀ W).grown (grownBy_putObj' W l o') (by have:=(Array.getElem?_eq_some_iff.1 hl).1; omega) (fun k e => by cases e; exact hn),fun k o2 hk hc _ => by
  refine (World.putObj_heap_other ?_).trans hk
  rintro rfl
  rw [hl] at hk; cases hk; rw [ho] at hc; cases hc⟩
theorem Asc.alloc {n₀ B:Nat} (W:World) (o:Obj) (hn:n₀ ≤ W.heap.size):Asc n₀ B W (W.alloc o) :=
 ⟨(Below.refl n₀ W).alloc hn o,fun k o2 hk _ _ => (Below.heap_alloc W o k (Array.getElem?_eq_some_iff.1 hk).1).trans hk⟩
def Sta {α:Type} (n₀ B:Nat) (I:List α → World → Prop):Prop:=∀ ys W W',I ys W → Asc n₀ B W W' → I ys W'
def zcge {α:Type} (F:Fence) (n:Nat) (P:Program) (g B:Nat) (T:TypeId) (s:Value) (encs:α → Array Value) (xs:List α):Prop :=
 ∀ (l:Nat) (J:List α → World → Prop) (W:World),Boxed W B T s → (∀ ys W1 W2,J ys W1 → Asd B W1 W2 → J ys W2) →
  (∀ pre x W1,J pre W1 → pre ++ [x] <+: xs → YieldAt F (n - 1) P l (encs x) W1 fun e W' => e = .returned (.bool true) ∧ J (pre ++ [x]) W' ∧ W'.heap[B]? = W1.heap[B]?) →
  J [] W → CallsIn F n P g #[.func (.yield l) #[] #[],.pointer (some ⟨B,0,none⟩)] W fun e W' => (∃ v,e = .returned v) ∧ J xs W'
def zbk6 (R:World → Prop):Exit → Act → World → Prop
 | .normal,_,W => R W
 | _,_,_ => False
variable {F:Fence} {n:Nat} {P:Program}
theorem zcch {α:Type} {g:Operand} {ps:Array Tmp} {assign body:Code} {Q:Exit → Act → World → Prop} {a:Act} {w:World} {n₀ B:Nat} {T:TypeId} {s:Value}
 (hro:F.round = none) (h1:1 ≤ n) {gf:Nat} (hg:a.eval g = .func (.func gf) #[] #[.pointer (some ⟨B,0,none⟩)]) (hFg:F.fn gf) (eg:∀ args w,(callFunc gf args).run P w = .ok (.enter gf args) w)
 {encs:α → Array Value} {xs:List α} (hseq:zcge F (n - 1) P gf B T s encs xs) (hBx:Boxed w B T s) (hnB:n₀ ≤ B) (hps:∀ x,(encs x).size = ps.size)
 (I:List α → World → Prop) (hI:Sta n₀ B I) (h0:I [] w) (a₁:α → Act)
 (hassign:∀ (l:Nat) (x:α) (W:World) (K:Act → World → Prop),K (a₁ x) W →
  assign.wpIn (F.inRound l) (n - 1 - 1) P (Exit.then K (fun _ _ _ => False)) { tmps:=(ps.zip (encs x)).foldl (fun t (p,v) => t.setIfInBounds p v) a.tmps,defers:=[] } W)
 (hbody:∀ (l:Nat) (pre:List α) (x:α) (W:World),I pre W → pre ++ [x] <+: xs → body.wpIn (F.inRound l) (n - 1 - 1) P (zbk6 fun W' => KeepsOthers W W' ∧ W'.heap[B]? = W.heap[B]? ∧ I (pre ++ [x]) W') (a₁ x) W)
 (hdone:∀ (D:Nat) (W:World),n₀ ≤ D → I xs W → W.heap[D]? = some (.deferred (some [])) → Q .normal { a with defers:={ target:=.collected D,args:=#[] } :: a.defers } W) :
 (Code.rangeFunc g ps assign body).wpIn F n P Q a w:=by
 refine wpIn_rangeFunc ?_
 intro fn hfn
 rw [hro]
 have hBw:B < w.heap.size:=hBx.lt
 obtain ⟨rec,hrec⟩:∃ rec:LoopState → Option Code → Loop,rec = fun st pe => { state:=st,pending:=pe,fn,tmps:=a.tmps,params:=ps,assign,body,defers:=w.heap.size }:=⟨_,rfl⟩
 obtain ⟨W1,hW1⟩:∃ W1,(w.alloc (.deferred (some []))).alloc (.loop (rec .ready none)) = W1:=⟨_,rfl⟩
 have hL1:W1.heap[w.heap.size + 1]? = some (.loop (rec .ready none)):=by
  rw [← hW1]; have:=World.alloc_heap_new (w.alloc (.deferred (some []))) (.loop (rec .ready none)); rwa [World.size_alloc] at this
 have hK1:W1.heap[w.heap.size]? = some (.deferred (some [])):=by
  rw [← hW1]; exact (Below.heap_alloc _ _ _ (by simp)).trans (World.alloc_heap_new w _)
 have hI1:I [] W1:=by
  rw [← hW1]; exact hI _ _ _ (hI _ _ _ h0 (.alloc _ _ (by omega))) (.alloc _ _ (by simp; omega))
 have hB1:Boxed W1 B T s:=by rw [← hW1]; exact (hBx.alloc _).alloc _
 refine ⟨w.heap.size + 1,[{ target:=.collected w.heap.size,args:=#[] }],W1,{ target:=.fn (.func gf) #[.pointer (some ⟨B,0,none⟩)],args:=#[.func (.yield (w.heap.size + 1)) #[] #[]] },W1,gf,
  #[.func (.yield (w.heap.size + 1)) #[] #[]] ++ #[.pointer (some ⟨B,0,none⟩)],W1,?_,?_,?_,?_,fun _ => h1,?_⟩
 · rw [← hW1,hrec]; exact run_enterLoop_outer _ _ _ _ _
 · simp only [resolve,hg]
   simp [go_sem]
 · intro f' hf'; simp [Target.leads] at hf'; subst hf'; exact hFg
 · simp [invoke,go_sem,eg]
 · refine (hseq (w.heap.size + 1)
    (fun pre W => I pre W ∧ W.heap[w.heap.size + 1]? = some (.loop (rec .ready none)) ∧ W.heap[w.heap.size]? = some (.deferred (some [])))
    W1 hB1
    (fun ys A C ⟨hi,hl,hk⟩ hs => by
     have hl':=(Array.getElem?_eq_some_iff.1 hl).1
     exact ⟨hI _ _ _ hi (hs.asc hnB (by omega)),(hs.block _ hl' (by omega)).trans hl,(hs.block _ (by omega) (by omega)).trans hk⟩)
    ?_ ⟨hI1,hL1,hK1⟩).mono ?_
   · rintro pre x W ⟨hi,hl,hk⟩ hlen
     have hlt:w.heap.size + 1 < W.heap.size:=(Array.getElem?_eq_some_iff.1 hl).1
     have hy:=run_yield (P:=P) (args:=encs x) hl (by rw [hrec]; exact hps x)
     rw [hrec] at hy
     refine ⟨fn,_,assign,body,hy,roundIn_of_wpIn hfn (hassign _ x W _ ⟨_,run_beginRound hl (by rw [hrec]),?_⟩)⟩
     have hl2:(W.putObj (w.heap.size + 1) (.loop { rec .ready none with state:=.busy })).heap[w.heap.size + 1]? = some (.loop { rec .ready none with state:=.busy }):=World.putObj_heap_same hlt
     have hk2:(W.putObj (w.heap.size + 1) (.loop { rec .ready none with state:=.busy })).heap[w.heap.size]? = some (.deferred (some [])):=(World.putObj_heap_other (by omega)).trans hk
     have hb2:(W.putObj (w.heap.size + 1) (.loop { rec .ready none with state:=.busy })).heap[B]? = W.heap[B]?:=World.putObj_heap_other (by omega)
     refine wpIn_mono (hbody _ pre x _ (hI _ _ _ hi (.putObj _ (by omega) hl rfl)) hlen) ?_
     rintro e a3 W3 hp
     cases e with
     | normal =>
      obtain ⟨hk3,hb3,hi3⟩:=hp
      have hl3:=hk3.same _ _ hl2 rfl
      have hr:=run_endRound (P:=P) none hl3
      rw [hrec] at hl3
      refine ⟨_,_,hr,rfl,⟨hI _ _ _ hi3 (.putObj _ (by omega) hl3 rfl),?_,(World.putObj_heap_other (by omega)).trans (hk3.same _ _ hk2 rfl)⟩,(World.putObj_heap_other (by omega)).trans (hb3.trans hb2)⟩
      rw [hrec]
      exact World.putObj_heap_same (Array.getElem?_eq_some_iff.1 hl3).1
     | _ => exact hp.elim
   · rintro e W2 ⟨⟨v,rfl⟩,hi,hl,hk⟩
     exact ⟨none,_,by have:=run_endLoop (P:=P) hl (by rw [hrec]; simp); rw [hrec] at this; exact this,hdone _ _ (by omega) (hI _ _ _ hi (.putObj _ (by omega) hl rfl)) ((World.putObj_heap_other (by omega)).trans hk)⟩
end Go.Proofs.Ytgkkienmocpnbaa.Wl
namespace Go.Proofs.Ytgkkienmocpnbaa.Wl
open Go Go.RowKit Sh
inductive Sc:TV → Value → Prop where
 | bool (b:Bool):Sc (.bool b) (.bool b)
 | int (k:IntKind) (n:Int):Sc (.int k n) (.int k n)
 | str (s:ByteArray):Sc (.str s) (.string s)
theorem Sc.tr {v:TV} {w:Value} (h:Sc v w) (σ:ah) (e:Env):TR σ e [] v w:=by
 cases h with
 | bool b => exact .pr (.bool b)
 | int k n => exact .pr (.int k n)
 | str s => exact .pr (.str s)
theorem Sc.vrel {v:TV} {w:Value} (h:Sc v w) (m:Mp):bm m w w:=by
 cases h with
 | bool b => exact .bool b
 | int k n => exact .int k n
 | str s => exact .string s
theorem Sc.back {v:TV} {w x c:Value} {σ:ah} {e:Env} {m:Mp} (h:Sc v w) (h1:TR σ e [] v x) (h2:bm m x c):c = w:=by
 cases h with
 | bool b => rw [np h1] at h2; exact zbmq h2
 | int k n => rw [jv h1] at h2; exact tw h2
 | str s => rw [up h1] at h2; exact zbm5 h2
section
variable {P:Program} {Γ:FuncId → Option TG}
def e0:Env:=⟨fun _ => 0,0,fun _ => .none⟩
theorem hr0:HR e0 ⟨[],0⟩ ah.none :=
 ⟨rfl,fun g hg => absurd rfl hg,fun g id hg => (by rcases hg with hg | ⟨_,hg⟩ <;> cases hg),fun id hid => absurd hid (Nat.not_lt_zero _)⟩
theorem zbpy (vs:List Value) (i:Nat):vs.toArray.getD i undef = vs.getD i undef:=bh vs i
def RdS (W0:World) (p:Value) (τ:TH) (W:World):Prop :=
 ∃ σ e m v,HR e τ σ ∧ (∀ g i,e.who g ≠ .tok i) ∧ Rep W0.heap.size W0 σ m W ∧ TR σ e [] (.ptr 0 0) v ∧ bm m v p
theorem RdS.below {W0 W:World} {p:Value} {τ:TH} (h:RdS W0 p τ W):Below W0.heap.size W0 W:=by
 obtain ⟨σ,e,m,v,_,_,h,_⟩:=h
 exact h.below
theorem RdS.later {W0 W W':World} {p:Value} {τ:TH} (h:RdS W0 p τ W) (hb:Below W.heap.size W W'):RdS W0 p τ W':=by
 obtain ⟨σ,e,m,v,h1,h2,h3,h4⟩:=h
 exact ⟨σ,e,m,v,h1,h2,h3.later hb,h4⟩
theorem zbdb (hG:GOK P Γ) {f:FuncId} {args:List TV} {vs:List Value} {r:TV} {x:Value} {τ':TH} (h:Ru Γ f args ⟨[],0⟩ r τ') (hl:args.length = vs.length) (hs:∀ i,i < args.length → Sc (args.getD i .undef) (vs.getD i undef)) (hx:Sc r x) (W:World) :
 Calls P f vs.toArray W fun e W' => e = .returned x ∧ Below W.heap.size W W':=by
 obtain ⟨k,hk⟩:=h
 have:=(zbjd hG k).1 _ _ _ _ _ hk ah.none e0 vs hr0 (fun g i h => by cases h) hl fun i hi => (hs i hi).tr _ _
 refine (this.2 _ _ _ W vs.toArray (Rep.none W) (by simp) fun i hi => ?_).mono ?_
 · rw [zbpy]; exact (hs i (by omega)).vrel _
 · rintro e W' ⟨v,c,m',σ',rfl,_,h3,h4,e',_,h5⟩
   rw [hx.back h5 h3]
   exact ⟨rfl,h4.below⟩
theorem zbak (hG:GOK P Γ) {f:FuncId} {args:List TV} {vs:List Value} {τ':TH} (h:Ru Γ f args ⟨[],0⟩ (.ptr 0 0) τ') (hl:args.length = vs.length) (hs:∀ i,i < args.length → Sc (args.getD i .undef) (vs.getD i undef)) (W:World) :
 Calls P f vs.toArray W fun e W' => ∃ p,e = .returned p ∧ RdS W p τ' W':=by
 obtain ⟨k,hk⟩:=h
 have:=(zbjd hG k).1 _ _ _ _ _ hk ah.none e0 vs hr0 (fun g i h => by cases h) hl fun i hi => (hs i hi).tr _ _
 refine (this.2 _ _ _ W vs.toArray (Rep.none W) (by simp) fun i hi => ?_).mono ?_
 · rw [zbpy]; exact (hs i (by omega)).vrel _
 · rintro e W' ⟨v,c,m',σ',rfl,_,h3,h4,e',ha,h5⟩
   exact ⟨c,rfl,σ',e',m',v,ha.hr,ha.notok,h4,h5,h3⟩
theorem zbnt (hG:GOK P Γ) {f:FuncId} {args:List TV} {vs:List Value} {r:TV} {x:Value} {τ τ':TH} (h:Ru Γ f (.ptr 0 0 :: args) τ r τ') (hl:args.length = vs.length) (hs:∀ i,i < args.length → Sc (args.getD i .undef) (vs.getD i undef)) (hx:Sc r x) {W0 W:World} {p:Value} (hp:RdS W0 p τ W) :
 Calls P f (p :: vs).toArray W fun e W' => e = .returned x ∧ RdS W0 p τ' W':=by
 obtain ⟨k,hk⟩:=h
 obtain ⟨σ,e,m,v,h1,h2,h3,h4,h5⟩:=hp
 have:=(zbjd hG k).1 _ _ _ _ _ hk σ e (v :: vs) h1 h2 (by simp [hl]) fun i hi => by
  cases i with
  | zero => exact h4
  | succ i => simpa using (hs i (by simpa using hi)).tr σ e
 refine (this.2 _ _ _ W (p :: vs).toArray h3 (by simp) fun i hi => ?_).mono ?_
 · rw [zbpy]
   cases i with
   | zero => exact h5
   | succ i => simpa using (hs i (by simp at hi; omega)).vrel m
 · rintro ex W' ⟨v',c,m',σ',rfl,hm,h6,h7,e',ha,h8⟩
   rw [hx.back h8 h6]
   refine ⟨rfl,σ',e',m',v,ha.hr,ha.notok,h7,?_,h5.mono hm⟩
   obtain ⟨q1,q2⟩:=n6 h4
   rw [q2,← ha.b0 0 q1]
   exact .ptr 0 0 (Nat.lt_of_lt_of_le q1 ha.n0)
end
end Go.Proofs.Ytgkkienmocpnbaa.Wl
namespace Go.Proofs.Ytgkkienmocpnbaa.Wl
open Go Go.RowKit Sh Ic
theorem zbkr {B:Nat} {w0 w w':World} {σ:ah} {m:Mp} (h:Rep B w0 σ m w) (t t':TypeId) (cs:List Value) (g room:Nat) (arr:Array Value) (fz:Nat × Nat) (hw:Below w.heap.size w w') (hg:w.heap.size ≤ g) (hn:w'.heap[g]? = some (.cells arr t' fz))
 (hv:∀ j,j < cs.length → j < arr.size ∧ bm m (cs.getD j undef) (arr.getD j undef)) (h1:∀ j,j < cs.length → scalar (cs.getD j undef) = true) :
 Rep B w0 (σ.push (.cells t cs .ro)) (m.push ⟨g,0,room⟩) w':=by
 have h':=h.later hw
 have key:∀ k,k < σ.next → ((σ.push (.cells t cs .ro)).blk k) = σ.blk k:=fun k hk => by simp [ah.push]; omega
 have kem:∀ k,k < σ.next → (m.push ⟨g,0,room⟩).l k = m.l k:=fun k hk => by simp [Mp.push,h.next]; omega
 have knw:(m.push ⟨g,0,room⟩).l σ.next = ⟨g,0,room⟩:=by simp [Mp.push,h.next]
 have e1:(σ.push (.cells t cs .ro)).blk σ.next = .cells t cs .ro:=by simp [ah.push]
 refine ⟨by simp [Mp.push,ah.push,h.next],h'.below,h.base,fun i hi => ?_,fun i j hi hj hij hr hl => ?_⟩
 · have hi2:i < σ.next + 1:=hi
   by_cases hin:i = σ.next
   · subst hin
     rw [knw,e1]
     refine ⟨arr,t',fz,hn,fun j hj => ⟨by simp; exact (hv j hj).1,?_,h1 j hj⟩,fun q => absurd rfl q⟩
     have:=(hv j hj).2.mono (m.le_push ⟨g,0,room⟩)
     simpa using this
   · have hi':i < σ.next:=by omega
     rw [kem i hi',key i hi']
     exact (h'.blk i hi').mono (m.le_push _)
 · have hi2:i < σ.next + 1:=hi
   have hj2:j < σ.next + 1:=hj
   by_cases hin:i = σ.next
   · rw [hin,e1] at hr
     cases hr
   · have hi':i < σ.next:=by omega
     rw [key i hi'] at hr
     by_cases hjn:j = σ.next
     · rw [hjn,knw,kem i hi']
       have:=(h.blk i hi').lt (Blk.live_of_own hr)
       simp only
       left
       omega
     · have hj':j < σ.next:=by omega
       rw [key j hj'] at hl
       rw [kem i hi',kem j hj',key i hi',key j hj']
       exact h.apart i j hi' hj' hij hr hl
theorem zbt7 {m:Mp} {a c:Value} (n:Int) (h:bm m a c):bm m (.tuple #[a,.int .i64 n]) (.tuple #[c,.int .i64 n]):=by
 refine .tuple _ _ rfl fun i hi => ?_
 match i,hi with
 | 0,_ => exact h
 | 1,_ => exact .int _ _
theorem zacp {σ:ah} {e:Env} {l:List TV} {a:Value} (n:Int) (h:PR σ (.sl l) a):TR σ e [] (.tup [.sl l,.int .i64 n]) (.tuple #[a,.int .i64 n]):=by
 refine .tup _ _ rfl fun i hi => ?_
 match i,hi with
 | 0,_ => exact .pr h
 | 1,_ => exact .pr (.int _ _)
theorem texts_callT {P:Program} {f:FuncId} {T:TypeId} {s:ByteArray} {xs:List ByteArray} {n:Int} (hc:zbin P f = true)
 (hw:∀ w,Calls P f #[.string s] w fun e W' => ∃ v,e = .returned (.tuple #[v,.int .i64 n]) ∧ Below w.heap.size w W' ∧ W'.ownsRow w.heap.size T 1 v xs.length (xs.map Value.string)) (τ:TH) :
 zbbw P f [.str s] τ (.tup [.sl (xs.map TV.str),.int .i64 n]) τ:=by
 intro σ e ws hr hnt hlen hargs
 obtain ⟨w0,rfl⟩:∃ w0,ws = [w0]:=List.length_eq_one_iff.1 (by simpa using hlen.symm)
 have h0:=hargs 0 (by simp)
 simp only [List.getD_cons_zero] at h0
 obtain rfl:=up h0
 refine ⟨hc,fun B w0 m w cargs hrep hsz hvr => ?_⟩
 obtain ⟨a0,rfl⟩:∃ a0,cargs = #[a0]:=by
  have:cargs.size = 1:=hsz
  obtain ⟨l⟩:=cargs
  match l,this with
  | [x],_ => exact ⟨x,rfl⟩
 obtain rfl:a0 = .string s:=zbm5 (hvr 0 (by simp))
 refine (hw w).mono ?_
 rintro ex W' ⟨v,rfl,hb,hl,(⟨rfl,hn⟩ | ⟨g,cap,cur,rfl,hg,hcell,hcap,hmax,hcs,htake⟩)⟩
 · obtain rfl:xs = []:=List.eq_nil_of_length_eq_zero hn
   exact ⟨_,_,m,σ,rfl,.refl _,zbt7 n .nilS,hrep.later hb,e,zbih (m6 hr hnt) hnt,zacp n .slN⟩
 · have hcur:∀ j,j < (xs.map Value.string).length → j < cur.size ∧ cur.getD j undef = (xs.map Value.string).getD j undef:=fun j hj => by
    have hj1:j < xs.length:=by simpa using hj
    have hjc:j < cur.size:=by omega
    refine ⟨hjc,?_⟩
    rw [← htake]
    have hjl:j < cur.toList.length:=by simpa using hjc
    simp only [Array.getD_eq_getD_getElem?,List.getD_eq_getElem?_getD,List.getElem?_take]
    rw [if_pos (by omega),Array.getElem?_toList]
   have hrep':=zbkr hrep T T (xs.map Value.string) g (cap * 1) cur (0,0) hb hg hcell (fun j hj => ⟨(hcur j hj).1,by
    rw [(hcur j hj).2]
    have hj1:j < xs.length:=by simpa using hj
    simp only [List.getD_eq_getElem?_getD,List.getElem?_map,List.getElem?_eq_getElem hj1,Option.map_some,Option.getD_some]
    exact .string _⟩) (fun j hj => by
    have hj1:j < xs.length:=by simpa using hj
    simp only [List.getD_eq_getElem?_getD,List.getElem?_map,List.getElem?_eq_getElem hj1,Option.map_some,Option.getD_some]
    rfl)
   have knw:(m.push ⟨g,0,cap * 1⟩).l σ.next = ⟨g,0,cap * 1⟩:=by simp [Mp.push,hrep.next]
   have kat:(σ.push (.cells T (xs.map Value.string) .ro)).at σ.next = .cells T (xs.map Value.string) .ro:=ah.at_push_new _ _
   refine ⟨.tuple #[.slice (some ⟨σ.next,0,none⟩) xs.length 1,.int .i64 n],_,_,_,rfl,m.le_push ⟨g,0,cap * 1⟩,zbt7 n ?_,hrep',e,zbih ((m6 hr hnt).pushRo _).1 hnt,zacp n ?_⟩
   · have:=bm.slice (m:=m.push ⟨g,0,cap * 1⟩) σ.next 0 xs.length 1 cap (by simp [Mp.push,hrep.next]) hcap (by rw [knw]; simp)
     rw [knw] at this
     exact this
   · by_cases hx:xs = []
     · subst hx; exact .slE _ _
     · have:=PR.sl (σ:=σ.push (.cells T (xs.map Value.string) .ro)) (xs.map TV.str) σ.next 0 1 T (xs.map Value.string) .ro (by simpa using hx) (by simp) kat (by simp) (by simp) (fun i hi => by
        have hi1:i < xs.length:=by simpa using hi
        simp only [List.getD_eq_getElem?_getD,List.getElem?_map,List.getElem?_eq_getElem hi1,Option.map_some,Option.getD_some]
        rfl) (fun i hi j hj => by
        have hi1:i < xs.length:=by simpa using hi
        obtain rfl:j = 0:=by omega
        simp only [List.getD_eq_getElem?_getD,List.getElem?_map,List.getElem?_eq_getElem hi1,Option.map_some,Option.getD_some,Nat.zero_add,Nat.mul_one,Nat.add_zero]
        exact .str _)
       simpa using this
open Go Go.RowKit Sh Ic
def rτ (r:Rd):TH:=⟨[⟨aq,[.str r.s_,.bool r.bad_]⟩],0⟩
theorem RdS.drew {W0 W:World} {p:Value} {τ:TH} (h:RdS W0 p τ W):RdS W0 p τ W.drew:=h.later ((Below.refl _ _).drew)
theorem sc1 {v:TV} {w:Value} (h:Sc v w):∀ i,i < [v].length → Sc ([v].getD i .undef) ([w].getD i undef):=fun i hi => by
 obtain rfl:i = 0:=by simpa using hi
 exact h
theorem sc0:∀ i,i < ([]:List TV).length → Sc (([]:List TV).getD i .undef) (([]:List Value).getD i undef):=fun i hi => absurd hi (Nat.not_lt_zero _)
theorem zbkv (s:ByteArray) (W:World):Calls Try.prog 31 #[.string s] W fun e W' => ∃ p,e = .returned p ∧ RdS W p (rτ ⟨s,false⟩) W' :=
 zbak gok (zcbp s ⟨s,false⟩ rfl ⟨[],0⟩ (Nat.le_refl _)) rfl (sc1 (.str s)) W
theorem numW_eq (l:List UInt8):zbe6 l = j5 0 l:=rfl
theorem text_some {s b t:ByteArray} (h:xo s = some (b,t)):Rd.text ⟨s,false⟩ 1048576 = (b,⟨t,false⟩) ∧ (s.size:Int) = 8 + b.size + t.size ∧ b.size ≤ 1048576 ∧ b = s.extract 8 (8 + b.size) ∧ t = s.extract (8 + b.size) s.size:=by
 unfold xo at h
 split at h
 · rename_i hc
   obtain ⟨h8,h0,h1,h2⟩:=hc
   rw [numW_eq] at *
   simp only [Option.some.injEq,Prod.mk.injEq] at h
   obtain ⟨rfl,rfl⟩:=h
   have e1:Rd.take ⟨s,false⟩ 8 = (s.extract 0 8,⟨s.extract 8 s.size,false⟩):=by unfold Rd.take; rw [if_pos ⟨rfl,by omega,by simp only; omega⟩]; rfl
   have e2:Rd.num ⟨s,false⟩ = (j5 0 (s.extract 0 8).data.toList,⟨s.extract 8 s.size,false⟩):=by unfold Rd.num; rw [e1]
   have e3:Rd.count ⟨s,false⟩ 1048576 = (j5 0 (s.extract 0 8).data.toList,⟨s.extract 8 s.size,false⟩):=by
    unfold Rd.count; rw [e2,if_neg (by simp only; omega)]
   generalize j5 0 (s.extract 0 8).data.toList = n at *
   obtain ⟨k,rfl⟩:=Int.eq_ofNat_of_zero_le h0
   have sz:(s.extract 8 s.size).size = s.size - 8:=by rw [ByteArray.size_extract]; omega
   have sb:(s.extract 8 (8 + k)).size = k:=by rw [ByteArray.size_extract]; omega
   have st:(s.extract (8 + k) s.size).size = s.size - (8 + k):=by rw [ByteArray.size_extract]; omega
   rw [Int.toNat_natCast]
   refine ⟨?_,by rw [sb,st]; omega,by rw [sb]; omega,by rw [sb],by rw [sb]⟩
   unfold Rd.text
   rw [e3]
   unfold Rd.take
   rw [if_pos ⟨rfl,by simp only; omega,by simp only; rw [sz]; omega⟩]
   simp only [Int.ofNat_eq_natCast,Int.toNat_natCast,Prod.mk.injEq,Rd,ac.mk.injEq,and_true]
   rw [sz,ByteArray.extract_extract,ByteArray.extract_extract]
   exact ⟨by congr 1; omega,by congr 1; omega⟩
 · cases h
theorem zamb {s:ByteArray} (h:xo s = none):Rd.text ⟨s,false⟩ 1048576 = (⟨#[]⟩,⟨⟨#[]⟩,true⟩):=by
 unfold xo at h
 split at h
 · cases h
 · rename_i hc
   rw [numW_eq] at hc
   unfold Rd.text Rd.count Rd.num
   by_cases h8:8 ≤ s.size
   · have e1:Rd.take ⟨s,false⟩ 8 = (s.extract 0 8,⟨s.extract 8 s.size,false⟩):=by unfold Rd.take; rw [if_pos ⟨rfl,by omega,by simp only; omega⟩]; rfl
     have sz:(s.extract 8 s.size).size = s.size - 8:=by rw [ByteArray.size_extract]; omega
     rw [e1]
     simp only
     generalize j5 0 (s.extract 0 8).data.toList = n at *
     by_cases h1:n < 0 ∨ 1048576 < n
     · rw [if_pos h1]; rfl
     · rw [if_neg h1]
       unfold Rd.take
       rw [if_neg]
       · rfl
       · rintro ⟨-,q1,q2⟩
         simp only at q1 q2
         rw [sz] at q2
         exact hc ⟨h8,by omega,by omega,by omega⟩
   · have e1:Rd.take ⟨s,false⟩ 8 = (⟨#[]⟩,Rd.fail):=by
      unfold Rd.take; rw [if_neg]; rintro ⟨-,-,q⟩; simp only at q; omega
     rw [e1]
     simp only [Rd.fail]
     split <;> rfl
theorem zbdw {s b:ByteArray} {r:Rd} (h:Rd.text ⟨s,false⟩ 1048576 = (b,r)) {W0 W:World} {p:Value} (hp:RdS W0 p (rτ ⟨s,false⟩) W) :
 Calls Try.prog 32 #[p,.int .i64 1048576] W fun e W' => e = .returned (.string b) ∧ RdS W0 p (rτ r) W' :=
 zbnt gok (rv ⟨s,false⟩ 1048576 (b,r) (by rw [zbka,h]) (rτ ⟨s,false⟩) 0 (Nat.zero_le _) rfl (Nat.one_pos) (Nat.le_refl _)) rfl (sc1 (.int .i64 1048576)) (.str b) hp
theorem zbgd {r:Rd} {W0 W:World} {p:Value} (hp:RdS W0 p (rτ r) W) :
 Calls Try.prog 33 #[p] W fun e W' => e = .returned (.int .i64 (r.s_.size:Nat)) ∧ RdS W0 p (rτ r) W' :=
 zbnt gok (li r _ rfl (rτ r) 0 (Nat.zero_le _) rfl (Nat.one_pos)) rfl sc0 (.int .i64 _) hp
theorem zbde {r:Rd} {W0 W:World} {p:Value} (hp:RdS W0 p (rτ r) W) :
 Calls Try.prog 34 #[p] W fun e W' => e = .returned (.bool r.bad_) ∧ RdS W0 p (rτ r) W' :=
 zbnt gok (ml r _ rfl (rτ r) 0 (Nat.zero_le _) rfl (Nat.one_pos)) rfl sc0 (.bool _) hp
theorem seal_f (s:ByteArray) (h:s.size < 10000000000):ub s = some (qy s):=by
 unfold ub qy
 rw [zbkn s h,obz,if_pos ⟨by omega,by rw [zby4]; omega⟩]
theorem zbnc {s:ByteArray} (h:s.size ≤ 1048576) (W:World):Calls Try.prog 16 #[.string s] W fun e W' => e = .returned (.string (qy s)) ∧ Below W.heap.size W W' :=
 zbdb gok (zbph s _ (seal_f s (by omega)) ⟨[],0⟩ (Nat.le_refl _)) rfl (sc1 (.str s)) (.str _) W
open Go Go.RowKit Sh Ic
attribute [local go_sem] Oper.semAt_some
theorem zaaw (f:Nat):Fence.wide.fn f = True:=rfl
theorem zaax:(Fence.wide.depth.isSome = true) = False:=by simp [Fence.wide]
attribute [local go_sem] zaaw zaax
section
variable {n:Nat} {P:Program} {ops:Array Oper} {Q:Exit → Act → World → Prop} {md:Region.Mode} {i:Nat} {oi:Oper} {v:Value} {fuel:Nat} {listed:Array Bool} {a:Act} {w:World}
theorem cd (hi:ops[i]? = some oi) (hs:Region.noSelect ops = true) (hf:Region.free md ops listed i = true) (hr:(Region.ready md ops listed).contains i = true) (hw:Region.wanted oi (yielded ops a.tmps) = true)
 (hv:∀ w,(execOp a.eval oi).run P w = .ok (.value v) w) (hb:∀ w,oi.about P w a.eval = none) (hQ:∀ c a w,Q (.panic c) (a.put oi.dst v) w → Q (.panic c) a w)
 (h:wpAnyIn Fence.wide n P md ops Q fuel (listed.setIfInBounds i true) (a.put oi.dst v) w):wpAnyIn Fence.wide n P md ops Q (fuel + 1) listed a w :=
 wpAnyIn_take rfl hi hs hf hr hQ ⟨Or.inl ⟨hw,hv⟩,hb⟩ h
theorem kw (hi:ops[i]? = some oi) (hs:Region.noSelect ops = true) (hf:Region.free md ops listed i = true) (hr:(Region.ready md ops listed).contains i = true) (hw:Region.wanted oi (yielded ops a.tmps) = false)
 (hb:∀ w,oi.about P w a.eval = none) (hQ:∀ c a w,Q (.panic c) (a.put oi.dst undef) w → Q (.panic c) a w)
 (h:wpAnyIn Fence.wide n P md ops Q fuel (listed.setIfInBounds i true) (a.put oi.dst undef) w):wpAnyIn Fence.wide n P md ops Q (fuel + 1) listed a w :=
 wpAnyIn_take rfl hi hs hf hr hQ ⟨Or.inr ⟨hw,rfl⟩,hb⟩ h
theorem ut (hr:Region.ready md ops listed = [i]) (hi:ops[i]? = some oi) (hw:Region.wanted oi (yielded ops a.tmps) = false)
 (h:wpAnyIn Fence.wide n P md ops Q fuel (listed.setIfInBounds i true) (a.put oi.dst undef) w):wpAnyIn Fence.wide n P md ops Q (fuel + 1) listed a w :=
 wpAnyIn_ready hr (by simp) (AllReadyIn.cons hi (fun K hK => by rw [if_neg (by rw [hw]; decide)]; exact ⟨fun _ _ => trivial,hK _ _ h⟩) AllReadyIn.nil)
end
theorem bl (bs:ByteArray):∀ n i r,bs.size - i = n → ByteArray.toList.loop bs i r = r.reverse ++ bs.data.toList.drop i:=by
 intro n
 induction n with
 | zero =>
  intro i r h
  rw [ByteArray.toList.loop,if_neg (by omega),List.drop_eq_nil_of_le (by show bs.data.toList.length ≤ i; rw [Array.length_toList]; show bs.size ≤ i; omega),List.append_nil]
 | succ n ih =>
  intro i r h
  rw [ByteArray.toList.loop,if_pos (by omega),ih _ _ (by omega),List.reverse_cons,List.append_assoc]
  have hi:i < bs.data.toList.length:=by rw [Array.length_toList]; show i < bs.size; omega
  rw [List.drop_eq_getElem_cons hi]
  congr 1
  have hi2:i < bs.data.size:=by rw [← Array.length_toList]; exact hi
  simp only [ByteArray.get!]
  rw [getElem!_pos bs.data i hi2]
  simp
theorem zbj8 {a b:ByteArray} (h:a.toList = b.toList):a = b:=by
 unfold ByteArray.toList at h
 rw [bl a _ 0 [] rfl,bl b _ 0 [] rfl] at h
 exact ByteArray.ext (Array.ext' (by simpa using h))
theorem Hid.mk' {p:Prop} (h:p):Hid p:=h
def zblf (x:ByteArray × Nat):Array Value:=#[.int .i64 (x.2:Nat),.string x.1]
def zbek (B:Nat) (W:World):Nat:=match W.cell? ⟨B,0,none⟩ with | some (.string s) => s.size | _ => 0
theorem Boxed.through {W W':World} {B:Nat} {T:TypeId} {v:Value} {p:Value} {τ:TH} (h:Boxed W B T v) (hr:RdS W p τ W'):Boxed W' B T v:=(hr.below.block B h.lt).trans h
set_option maxRecDepth 100000 in
set_option maxHeartbeats 4000000 in
theorem mw (n:Nat) (hn:3 ≤ n) (B l:Nat) (s:ByteArray) (hs:s.size ≤ 1000000000) (J:List (ByteArray × Nat) → World → Prop) (W:World) (hB:Boxed W B 9 (.string s)) (hJ:∀ ys W1 W2,J ys W1 → Asd B W1 W2 → J ys W2)
 (hY:∀ pre x W1,J pre W1 → pre ++ [x] <+: vu s.size s → YieldAt Fence.wide (n - 1) Try.prog l (zblf x) W1 fun e W' => e = .returned (.bool true) ∧ J (pre ++ [x]) W' ∧ W'.heap[B]? = W1.heap[B]?)
 (h0:J [] W):CallsIn Fence.wide n Try.prog 30 #[.func (.yield l) #[] #[],.pointer (some ⟨B,0,none⟩)] W fun e W' => (∃ v,e = .returned v) ∧ J (vu s.size s) W':=by
 have hmx:Try.prog.follows .mixedOrders = true:=by kernel_rfl
 refine callsIn_of_wp Try.func30 rfl trivial ?_ rfl
 simp only [Try.ntmps30,List.size_toArray,List.length_cons,List.length_nil,Nat.reduceAdd,Nat.reduceSub,Array.replicate_succ,Array.replicate_zero,List.push_toArray,List.append_toArray,List.nil_append,List.cons_append]
 gi_wp2
 gi_loopw [] (fun wr => ∃ pre k s',vu s.size s = pre ++ vu k s' ∧ s'.size ≤ k ∧ s'.size ≤ 1000000000 ∧ Boxed wr B 9 (.string s') ∧ J pre wr) (fun wr => zbek B wr)
 case atStart =>
  exact ⟨[],s.size,s,rfl,Nat.le_refl _,hs,hB,h0⟩
 case round =>
  obtain ⟨pre,k,s',hx,hk,hs',hb,hj⟩:=hrel
  have hc:=hb.cell
  have hf:=hb.frozen
  have hend:ia s' = none → pre = vu s.size s:=fun q => by
   rw [hx]
   cases k with
   | zero => exact (List.append_nil _).symm
   | succ k => unfold vu; rw [q]; exact (List.append_nil _).symm
  cases hw:xo s' with
  | none =>
   have ht:=zamb hw
   have hwn:IntKind.i64.wrap (s'.size:Int) = (s'.size:Int):=w64 (by omega) (by omega)
   have hst:ia s' = none:=by unfold ia; rw [hw]; rfl
   gi_wp2
   gi_at_call 31
   refine (callsIn_wide.2 (zbkv s' _)).mono ?_
   rintro e W1 ⟨p,rfl,h1⟩
   gi_wp2
   gi_at_call 32
   refine (callsIn_wide.2 (zbdw ht h1)).mono ?_
   rintro e W2 ⟨rfl,h2⟩
   clear h1
   have hc1:=(Boxed.through hb h2.drew).cell
   gi_wp2
   refine wpIn_mono (Q:=Exit.then (fun a w => a = { tmps:=#[.func (.yield l) #[] #[],.pointer (some ⟨B,0,none⟩),undef,p,.string ⟨#[]⟩,.int .i64 (s'.size:Nat),.string s',p,p,.string ⟨#[]⟩,.string s',.int .i64 (s'.size:Nat),p,.int .i64 0,.int .i64 (s'.size:Nat),u15,u16,u17,u18,u19,u20,u21,u22,u23,u24,u25,u26,u27,u28,u29,u30,u31,u32,u33,u34,u35,u36,u37,u38,u39,u40,u41,u42,u43],defers:=[] } ∧ RdS wr p (rτ ⟨⟨#[]⟩,true⟩) w) fun _ _ _ => False) ?_ ?_
   ·
    refine wpIn_region_any hmx ?_
    change wpAnyIn _ _ _ _ _ _ _ _ _ (World.drew _)
    refine cd (i:=2) (v:=p) rfl (by kernel_rfl) (by kernel_rfl) (by kernel_rfl) (by kernel_rfl) (fun w => by kernel_rfl) (fun _ => rfl) (fun _ _ _ h => h) ?_
    refine wpAnyIn_ready (rs:=[0,3]) (by kernel_rfl) (by simp) (AllReadyIn.cons rfl (fun K hK => ?_) (AllReadyIn.cons rfl (fun K hK => ?_) AllReadyIn.nil))
    · go_simp
      refine hK _ _ ?_
      clear hK K
      refine cd (i:=1) (v:=.int .i64 (s'.size:Nat)) rfl (by kernel_rfl) (by kernel_rfl) (by kernel_rfl) (by kernel_rfl) (fun w => by go_simp) (fun _ => rfl) (fun _ _ _ h => h) ?_
      refine wpAnyIn_ready (rs:=[3]) (by kernel_rfl) (by simp) (AllReadyIn.cons rfl (fun K hK => ?_) AllReadyIn.nil)
      go_simp
      gi_at_call 33
      refine (callsIn_wide.2 (zbgd h2.drew)).mono ?_
      rintro e W3 ⟨rfl,h3⟩
      refine hK _ _ ?_
      clear hK K
      refine cd (i:=4) (v:=.int .i64 (s'.size:Nat)) rfl (by kernel_rfl) (by kernel_rfl) (by kernel_rfl) (by kernel_rfl) (fun w => by go_simp <;> exact hwn) (fun _ => rfl) (fun _ _ _ h => h) ?_
      refine cd (i:=5) (v:=.int .i64 (s'.size:Nat)) rfl (by kernel_rfl) (by kernel_rfl) (by kernel_rfl) (by kernel_rfl) (fun w => by kernel_rfl) (fun _ => rfl) (fun _ _ _ h => h) ?_
      refine wpAnyIn_done (by kernel_rfl) ⟨by kernel_rfl,h3⟩ _
    · go_simp
      gi_at_call 33
      refine (callsIn_wide.2 (zbgd h2.drew)).mono ?_
      rintro e W3 ⟨rfl,h3⟩
      refine hK _ _ ?_
      clear hK K
      have hc3:=(Boxed.through hb h3).cell
      refine wpAnyIn_ready (rs:=[0]) (by kernel_rfl) (by simp) (AllReadyIn.cons rfl (fun K hK => ?_) AllReadyIn.nil)
      go_simp
      refine hK _ _ ?_
      clear hK K
      refine cd (i:=1) (v:=.int .i64 (s'.size:Nat)) rfl (by kernel_rfl) (by kernel_rfl) (by kernel_rfl) (by kernel_rfl) (fun w => by go_simp) (fun _ => rfl) (fun _ _ _ h => h) ?_
      refine cd (i:=4) (v:=.int .i64 (s'.size:Nat)) rfl (by kernel_rfl) (by kernel_rfl) (by kernel_rfl) (by kernel_rfl) (fun w => by go_simp <;> exact hwn) (fun _ => rfl) (fun _ _ _ h => h) ?_
      refine cd (i:=5) (v:=.int .i64 (s'.size:Nat)) rfl (by kernel_rfl) (by kernel_rfl) (by kernel_rfl) (by kernel_rfl) (fun w => by kernel_rfl) (fun _ => rfl) (fun _ _ _ h => h) ?_
      refine wpAnyIn_done (by kernel_rfl) ⟨by kernel_rfl,h3⟩ _
   rintro e a W3 h3
   cases e with
   | normal =>
    obtain ⟨rfl,h3⟩:=h3
    gi_wp2
    refine wpIn_mono (Q:=Exit.then (fun a w => a = { tmps:=#[.func (.yield l) #[] #[],.pointer (some ⟨B,0,none⟩),undef,p,.string ⟨#[]⟩,.int .i64 (s'.size:Nat),.string s',p,p,.string ⟨#[]⟩,.string s',.int .i64 (s'.size:Nat),p,.int .i64 0,.int .i64 (s'.size:Nat),p,.bool true,.bool true,undef,undef,undef,.bool true,.bool true,undef,undef,undef,undef,undef,undef,undef,undef,.bool true,.bool true,undef,undef,undef,undef,undef,undef,.bool true,u40,u41,u42,u43],defers:=[] } ∧ RdS wr p (rτ ⟨⟨#[]⟩,true⟩) w) fun _ _ _ => False) ?_ ?_
    ·
     refine wpIn_region_any hmx ?_
     change wpAnyIn _ _ _ _ _ _ _ _ _ (World.drew _)
     refine cd (i:=0) (v:=p) rfl (by kernel_rfl) (by kernel_rfl) (by kernel_rfl) (by kernel_rfl) (fun w => by kernel_rfl) (fun _ => rfl) (fun _ _ _ h => h) ?_
     refine wpAnyIn_ready (rs:=[1]) (by kernel_rfl) (by simp) (AllReadyIn.cons rfl (fun K hK => ?_) AllReadyIn.nil)
     go_simp
     gi_at_call 34
     refine (callsIn_wide.2 (zbde h3.drew)).mono ?_
     rintro e W4 ⟨rfl,h4⟩
     refine hK _ _ ?_
     clear hK K
     refine cd (i:=2) (v:=.bool true) rfl (by kernel_rfl) (by kernel_rfl) (by kernel_rfl) (by kernel_rfl) (fun w => by kernel_rfl) (fun _ => rfl) (fun _ _ _ h => h) ?_
     refine kw (i:=3) rfl (by kernel_rfl) (by kernel_rfl) (by kernel_rfl) (by kernel_rfl) (fun _ => rfl) (fun _ _ _ h => h) ?_
     refine ut (i:=4) (by kernel_rfl) rfl (by kernel_rfl) ?_
     refine kw (i:=5) rfl (by kernel_rfl) (by kernel_rfl) (by kernel_rfl) (by kernel_rfl) (fun _ => rfl) (fun _ _ _ h => h) ?_
     refine cd (i:=6) (v:=.bool true) rfl (by kernel_rfl) (by kernel_rfl) (by kernel_rfl) (by kernel_rfl) (fun w => by kernel_rfl) (fun _ => rfl) (fun _ _ _ h => h) ?_
     refine cd (i:=7) (v:=.bool true) rfl (by kernel_rfl) (by kernel_rfl) (by kernel_rfl) (by kernel_rfl) (fun w => by kernel_rfl) (fun _ => rfl) (fun _ _ _ h => h) ?_
     refine kw (i:=8) rfl (by kernel_rfl) (by kernel_rfl) (by kernel_rfl) (by kernel_rfl) (fun _ => rfl) (fun _ _ _ h => h) ?_
     refine kw (i:=9) rfl (by kernel_rfl) (by kernel_rfl) (by kernel_rfl) (by kernel_rfl) (fun _ => rfl) (fun _ _ _ h => h) ?_
     refine kw (i:=10) rfl (by kernel_rfl) (by kernel_rfl) (by kernel_rfl) (by kernel_rfl) (fun _ => rfl) (fun _ _ _ h => h) ?_
     refine kw (i:=11) rfl (by kernel_rfl) (by kernel_rfl) (by kernel_rfl) (by kernel_rfl) (fun _ => rfl) (fun _ _ _ h => h) ?_
     refine kw (i:=12) rfl (by kernel_rfl) (by kernel_rfl) (by kernel_rfl) (by kernel_rfl) (fun _ => rfl) (fun _ _ _ h => h) ?_
     refine kw (i:=13) rfl (by kernel_rfl) (by kernel_rfl) (by kernel_rfl) (by kernel_rfl) (fun _ => rfl) (fun _ _ _ h => h) ?_
     refine ut (i:=14) (by kernel_rfl) rfl (by kernel_rfl) ?_
     refine kw (i:=15) rfl (by kernel_rfl) (by kernel_rfl) (by kernel_rfl) (by kernel_rfl) (fun _ => rfl) (fun _ _ _ h => h) ?_
     refine cd (i:=16) (v:=.bool true) rfl (by kernel_rfl) (by kernel_rfl) (by kernel_rfl) (by kernel_rfl) (fun w => by kernel_rfl) (fun _ => rfl) (fun _ _ _ h => h) ?_
     refine cd (i:=17) (v:=.bool true) rfl (by kernel_rfl) (by kernel_rfl) (by kernel_rfl) (by kernel_rfl) (fun w => by kernel_rfl) (fun _ => rfl) (fun _ _ _ h => h) ?_
     refine kw (i:=18) rfl (by kernel_rfl) (by kernel_rfl) (by kernel_rfl) (by kernel_rfl) (fun _ => rfl) (fun _ _ _ h => h) ?_
     refine kw (i:=19) rfl (by kernel_rfl) (by kernel_rfl) (by kernel_rfl) (by kernel_rfl) (fun _ => rfl) (fun _ _ _ h => h) ?_
     refine kw (i:=20) rfl (by kernel_rfl) (by kernel_rfl) (by kernel_rfl) (by kernel_rfl) (fun _ => rfl) (fun _ _ _ h => h) ?_
     refine kw (i:=21) rfl (by kernel_rfl) (by kernel_rfl) (by kernel_rfl) (by kernel_rfl) (fun _ => rfl) (fun _ _ _ h => h) ?_
     refine ut (i:=22) (by kernel_rfl) rfl (by kernel_rfl) ?_
     refine kw (i:=23) rfl (by kernel_rfl) (by kernel_rfl) (by kernel_rfl) (by kernel_rfl) (fun _ => rfl) (fun _ _ _ h => h) ?_
     refine cd (i:=24) (v:=.bool true) rfl (by kernel_rfl) (by kernel_rfl) (by kernel_rfl) (by kernel_rfl) (fun w => by kernel_rfl) (fun _ => rfl) (fun _ _ _ h => h) ?_
     refine wpAnyIn_done (by kernel_rfl) ⟨by kernel_rfl,h4⟩ _
    rintro e a W4 h4
    cases e with
    | normal =>
     obtain ⟨rfl,h4⟩:=h4
     gi_wp2
     refine bodyPost_ret (results_none rfl _ _ _) rfl ?_
     exact ⟨⟨_,rfl⟩,hend hst ▸ hJ _ _ _ hj (.of_below h4.below)⟩
    | _ => exact h4.elim
   | _ => exact h3.elim
  | some x =>
   obtain ⟨b,t⟩:=x
   obtain ⟨ht,hsz,hbs,-,-⟩:=text_some hw
   have hwn:IntKind.i64.wrap ((s'.size:Int) - (t.size:Int)) = 8 + (b.size:Int):=by rw [w64 (by omega) (by omega)]; omega
   have hw8:IntKind.i64.wrap (8 + (b.size:Int) + 8) = 16 + (b.size:Int):=by rw [w64 (by omega) (by omega)]; omega
   have ht8:(8 + (b.size:Int)).toNat = 8 + b.size:=by omega
   have ht16:(16 + (b.size:Int)).toNat = 16 + b.size:=by omega
   have HSZ:=Hid.mk' hsz
   clear hsz
   gi_wp2
   gi_at_call 31
   refine (callsIn_wide.2 (zbkv s' _)).mono ?_
   rintro e W1 ⟨p,rfl,h1⟩
   gi_wp2
   gi_at_call 32
   refine (callsIn_wide.2 (zbdw ht h1)).mono ?_
   rintro e W2 ⟨rfl,h2⟩
   clear h1
   have hc1:=(Boxed.through hb h2.drew).cell
   gi_wp2
   refine wpIn_mono (Q:=Exit.then (fun a w => a = { tmps:=#[.func (.yield l) #[] #[],.pointer (some ⟨B,0,none⟩),undef,p,.string b,.int .i64 (8 + (b.size:Int)),.string s',p,p,.string b,.string s',.int .i64 (s'.size:Nat),p,.int .i64 (t.size:Nat),.int .i64 (8 + (b.size:Int)),u15,u16,u17,u18,u19,u20,u21,u22,u23,u24,u25,u26,u27,u28,u29,u30,u31,u32,u33,u34,u35,u36,u37,u38,u39,u40,u41,u42,u43],defers:=[] } ∧ RdS wr p (rτ ⟨t,false⟩) w) fun _ _ _ => False) ?_ ?_
   ·
    refine wpIn_region_any hmx ?_
    change wpAnyIn _ _ _ _ _ _ _ _ _ (World.drew _)
    refine cd (i:=2) (v:=p) rfl (by kernel_rfl) (by kernel_rfl) (by kernel_rfl) (by kernel_rfl) (fun w => by kernel_rfl) (fun _ => rfl) (fun _ _ _ h => h) ?_
    refine wpAnyIn_ready (rs:=[0,3]) (by kernel_rfl) (by simp) (AllReadyIn.cons rfl (fun K hK => ?_) (AllReadyIn.cons rfl (fun K hK => ?_) AllReadyIn.nil))
    · go_simp
      refine hK _ _ ?_
      clear hK K
      refine cd (i:=1) (v:=.int .i64 (s'.size:Nat)) rfl (by kernel_rfl) (by kernel_rfl) (by kernel_rfl) (by kernel_rfl) (fun w => by go_simp) (fun _ => rfl) (fun _ _ _ h => h) ?_
      refine wpAnyIn_ready (rs:=[3]) (by kernel_rfl) (by simp) (AllReadyIn.cons rfl (fun K hK => ?_) AllReadyIn.nil)
      go_simp
      gi_at_call 33
      refine (callsIn_wide.2 (zbgd h2.drew)).mono ?_
      rintro e W3 ⟨rfl,h3⟩
      refine hK _ _ ?_
      clear hK K
      refine cd (i:=4) (v:=.int .i64 (8 + (b.size:Int))) rfl (by kernel_rfl) (by kernel_rfl) (by kernel_rfl) (by kernel_rfl) (fun w => by go_simp <;> exact hwn) (fun _ => rfl) (fun _ _ _ h => h) ?_
      refine cd (i:=5) (v:=.int .i64 (8 + (b.size:Int))) rfl (by kernel_rfl) (by kernel_rfl) (by kernel_rfl) (by kernel_rfl) (fun w => by kernel_rfl) (fun _ => rfl) (fun _ _ _ h => h) ?_
      refine wpAnyIn_done (by kernel_rfl) ⟨by kernel_rfl,h3⟩ _
    · go_simp
      gi_at_call 33
      refine (callsIn_wide.2 (zbgd h2.drew)).mono ?_
      rintro e W3 ⟨rfl,h3⟩
      refine hK _ _ ?_
      clear hK K
      have hc3:=(Boxed.through hb h3).cell
      refine wpAnyIn_ready (rs:=[0]) (by kernel_rfl) (by simp) (AllReadyIn.cons rfl (fun K hK => ?_) AllReadyIn.nil)
      go_simp
      refine hK _ _ ?_
      clear hK K
      refine cd (i:=1) (v:=.int .i64 (s'.size:Nat)) rfl (by kernel_rfl) (by kernel_rfl) (by kernel_rfl) (by kernel_rfl) (fun w => by go_simp) (fun _ => rfl) (fun _ _ _ h => h) ?_
      refine cd (i:=4) (v:=.int .i64 (8 + (b.size:Int))) rfl (by kernel_rfl) (by kernel_rfl) (by kernel_rfl) (by kernel_rfl) (fun w => by go_simp <;> exact hwn) (fun _ => rfl) (fun _ _ _ h => h) ?_
      refine cd (i:=5) (v:=.int .i64 (8 + (b.size:Int))) rfl (by kernel_rfl) (by kernel_rfl) (by kernel_rfl) (by kernel_rfl) (fun w => by kernel_rfl) (fun _ => rfl) (fun _ _ _ h => h) ?_
      refine wpAnyIn_done (by kernel_rfl) ⟨by kernel_rfl,h3⟩ _
   rintro e a W3 h3
   cases e with
   | normal =>
    obtain ⟨rfl,h3⟩:=h3
    gi_wp2
    by_cases h8:8 ≤ t.size
    · by_cases heq:s'.extract (8 + b.size) (16 + b.size) = qy b
      · have hsz:=HSZ.out
        have hle:16 + (b.size:Int) ≤ s'.size:=by omega
        have hl0:(0:Int) ≤ 8 + (b.size:Int):=by omega
        have hl1:(8:Int) + (b.size:Int) ≤ 16 + (b.size:Int):=by omega
        have hnl:¬ (t.size:Int) < 8:=by omega
        have hl2:(8:Int) ≤ t.size:=by omega
        clear hsz
        obtain ⟨k,rfl⟩:∃ k',k = k' + 1:=⟨k - 1,by have:=HSZ.out; omega⟩
        have hst:ia s' = some (b,16 + b.size,s'.extract (16 + b.size) s'.size):=by unfold ia; rw [hw]; exact if_pos ⟨h8,heq⟩
        have hx2:vu s.size s = (pre ++ [(b,16 + b.size)]) ++ vu k (s'.extract (16 + b.size) s'.size):=by
         rw [hx]
         simp only [vu,hst,List.append_assoc,List.singleton_append]
        have hpx:pre ++ [(b,16 + b.size)] <+: vu s.size s:=⟨_,hx2.symm⟩
        clear hx hst
        have HX:=Hid.mk' hx2
        clear hx2
        refine wpIn_mono (Q:=Exit.then (fun a w => a = { tmps:=#[.func (.yield l) #[] #[],.pointer (some ⟨B,0,none⟩),undef,p,.string b,.int .i64 (8 + (b.size:Int)),.string s',p,p,.string b,.string s',.int .i64 (s'.size:Nat),p,.int .i64 (t.size:Nat),.int .i64 (8 + (b.size:Int)),p,.bool false,.bool false,p,.int .i64 (t.size:Nat),.bool false,.bool false,.bool false,.string s',.int .i64 (8 + (b.size:Int)),.int .i64 (8 + (b.size:Int)),.int .i64 (16 + (b.size:Int)),.string (qy b),.string b,.string (qy b),.bool false,.bool false,.bool false,.func (.yield l) #[] #[],.int .i64 (8 + (b.size:Int)),.int .i64 (16 + (b.size:Int)),.string b,.bool true,.bool false,.bool false,u40,u41,u42,u43],defers:=[] } ∧ J (pre ++ [(b,16 + b.size)]) w ∧ Boxed w B 9 (.string s')) fun _ _ _ => False) ?_ ?_
        ·
         refine wpIn_region_any hmx ?_
         change wpAnyIn _ _ _ _ _ _ _ _ _ (World.drew _)
         refine cd (i:=0) (v:=p) rfl (by kernel_rfl) (by kernel_rfl) (by kernel_rfl) (by kernel_rfl) (fun w => by kernel_rfl) (fun _ => rfl) (fun _ _ _ h => h) ?_
         refine wpAnyIn_ready (rs:=[1]) (by kernel_rfl) (by simp) (AllReadyIn.cons rfl (fun K hK => ?_) AllReadyIn.nil)
         go_simp
         gi_at_call 34
         refine (callsIn_wide.2 (zbde h3.drew)).mono ?_
         rintro e W4 ⟨rfl,h4⟩
         refine hK _ _ ?_
         clear hK K
         refine cd (i:=2) (v:=.bool false) rfl (by kernel_rfl) (by kernel_rfl) (by kernel_rfl) (by kernel_rfl) (fun w => by kernel_rfl) (fun _ => rfl) (fun _ _ _ h => h) ?_
         refine cd (i:=3) (v:=p) rfl (by kernel_rfl) (by kernel_rfl) (by kernel_rfl) (by kernel_rfl) (fun w => by kernel_rfl) (fun _ => rfl) (fun _ _ _ h => h) ?_
         refine wpAnyIn_ready (rs:=[4]) (by kernel_rfl) (by simp) (AllReadyIn.cons rfl (fun K hK => ?_) AllReadyIn.nil)
         go_simp
         gi_at_call 33
         refine (callsIn_wide.2 (zbgd h4)).mono ?_
         rintro e W5 ⟨rfl,h5⟩
         refine hK _ _ ?_
         clear hK K
         refine cd (i:=5) (v:=.bool false) rfl (by kernel_rfl) (by kernel_rfl) (by kernel_rfl) (by kernel_rfl) (fun w => by go_simp) (fun _ => rfl) (fun _ _ _ h => h) ?_
         refine cd (i:=6) (v:=.bool false) rfl (by kernel_rfl) (by kernel_rfl) (by kernel_rfl) (by kernel_rfl) (fun w => by kernel_rfl) (fun _ => rfl) (fun _ _ _ h => h) ?_
         refine cd (i:=7) (v:=.bool false) rfl (by kernel_rfl) (by kernel_rfl) (by kernel_rfl) (by kernel_rfl) (fun w => by kernel_rfl) (fun _ => rfl) (fun _ _ _ h => h) ?_
         refine cd (i:=9) (v:=.int .i64 (8 + (b.size:Int))) rfl (by kernel_rfl) (by kernel_rfl) (by kernel_rfl) (by kernel_rfl) (fun w => by kernel_rfl) (fun _ => rfl) (fun _ _ _ h => h) ?_
         refine cd (i:=10) (v:=.int .i64 (8 + (b.size:Int))) rfl (by kernel_rfl) (by kernel_rfl) (by kernel_rfl) (by kernel_rfl) (fun w => by kernel_rfl) (fun _ => rfl) (fun _ _ _ h => h) ?_
         refine cd (i:=11) (v:=.int .i64 (16 + (b.size:Int))) rfl (by kernel_rfl) (by kernel_rfl) (by kernel_rfl) (by kernel_rfl) (fun w => by go_simp <;> exact hw8) (fun _ => rfl) (fun _ _ _ h => h) ?_
         refine cd (i:=13) (v:=.string b) rfl (by kernel_rfl) (by kernel_rfl) (by kernel_rfl) (by kernel_rfl) (fun w => by kernel_rfl) (fun _ => rfl) (fun _ _ _ h => h) ?_
         have hc5:=(Boxed.through hb h5).cell
         refine wpAnyIn_ready (rs:=[8,14]) (by kernel_rfl) (by simp) (AllReadyIn.cons rfl (fun K hK => ?_) (AllReadyIn.cons rfl (fun K hK => ?_) AllReadyIn.nil))
         · go_simp
           refine hK _ _ ?_
           clear hK K
           refine cd (i:=12) (v:=.string (qy b)) rfl (by kernel_rfl) (by kernel_rfl) (by kernel_rfl) (by kernel_rfl) (fun w => by go_simp) (fun _ => rfl) (fun _ _ _ h => h) ?_
           refine wpAnyIn_ready (rs:=[14]) (by kernel_rfl) (by simp) (AllReadyIn.cons rfl (fun K hK => ?_) AllReadyIn.nil)
           go_simp
           gi_at_call 16
           refine (callsIn_wide.2 (zbnc hbs _)).mono ?_
           rintro e W6 ⟨rfl,hb6⟩
           have h6:=h5.later hb6
           refine hK _ _ ?_
           clear hK K
           refine cd (i:=15) (v:=.bool false) rfl (by kernel_rfl) (by kernel_rfl) (by kernel_rfl) (by kernel_rfl) (fun w => by go_simp) (fun _ => rfl) (fun _ _ _ h => h) ?_
           refine cd (i:=16) (v:=.bool false) rfl (by kernel_rfl) (by kernel_rfl) (by kernel_rfl) (by kernel_rfl) (fun w => by kernel_rfl) (fun _ => rfl) (fun _ _ _ h => h) ?_
           refine cd (i:=17) (v:=.bool false) rfl (by kernel_rfl) (by kernel_rfl) (by kernel_rfl) (by kernel_rfl) (fun w => by kernel_rfl) (fun _ => rfl) (fun _ _ _ h => h) ?_
           refine cd (i:=18) (v:=.func (.yield l) #[] #[]) rfl (by kernel_rfl) (by kernel_rfl) (by kernel_rfl) (by kernel_rfl) (fun w => by kernel_rfl) (fun _ => rfl) (fun _ _ _ h => h) ?_
           refine cd (i:=19) (v:=.int .i64 (8 + (b.size:Int))) rfl (by kernel_rfl) (by kernel_rfl) (by kernel_rfl) (by kernel_rfl) (fun w => by kernel_rfl) (fun _ => rfl) (fun _ _ _ h => h) ?_
           refine cd (i:=20) (v:=.int .i64 (16 + (b.size:Int))) rfl (by kernel_rfl) (by kernel_rfl) (by kernel_rfl) (by kernel_rfl) (fun w => by go_simp <;> exact hw8) (fun _ => rfl) (fun _ _ _ h => h) ?_
           refine cd (i:=21) (v:=.string b) rfl (by kernel_rfl) (by kernel_rfl) (by kernel_rfl) (by kernel_rfl) (fun w => by kernel_rfl) (fun _ => rfl) (fun _ _ _ h => h) ?_
           have hj6:=hJ _ _ _ hj (.of_below h6.below)
           obtain ⟨fn,tmps,assign,body,hy,hR⟩:=hY pre (b,16 + b.size) _ hj6 hpx
           simp only [zblf,Int.natCast_add,Int.cast_ofNat_Int] at hy
           refine wpAnyIn_ready (rs:=[22]) (by kernel_rfl) (by simp) (AllReadyIn.cons rfl (fun K hK => ?_) AllReadyIn.nil)
           go_simp
           refine hR.mono ?_
           rintro e W7 ⟨rfl,hj7,hb7⟩
           refine hK _ _ ?_
           clear hK K
           refine cd (i:=23) (v:=.bool false) rfl (by kernel_rfl) (by kernel_rfl) (by kernel_rfl) (by kernel_rfl) (fun w => by kernel_rfl) (fun _ => rfl) (fun _ _ _ h => h) ?_
           refine cd (i:=24) (v:=.bool false) rfl (by kernel_rfl) (by kernel_rfl) (by kernel_rfl) (by kernel_rfl) (fun w => by kernel_rfl) (fun _ => rfl) (fun _ _ _ h => h) ?_
           refine wpAnyIn_done (by kernel_rfl) ⟨by kernel_rfl,hj7,hb7.trans (Boxed.through hb h6)⟩ _
         · go_simp
           gi_at_call 16
           refine (callsIn_wide.2 (zbnc hbs _)).mono ?_
           rintro e W6 ⟨rfl,hb6⟩
           have h6:=h5.later hb6
           refine hK _ _ ?_
           clear hK K
           have hc6:=(Boxed.through hb h6).cell
           refine wpAnyIn_ready (rs:=[8]) (by kernel_rfl) (by simp) (AllReadyIn.cons rfl (fun K hK => ?_) AllReadyIn.nil)
           go_simp
           refine hK _ _ ?_
           clear hK K
           refine cd (i:=12) (v:=.string (qy b)) rfl (by kernel_rfl) (by kernel_rfl) (by kernel_rfl) (by kernel_rfl) (fun w => by go_simp) (fun _ => rfl) (fun _ _ _ h => h) ?_
           refine cd (i:=15) (v:=.bool false) rfl (by kernel_rfl) (by kernel_rfl) (by kernel_rfl) (by kernel_rfl) (fun w => by go_simp) (fun _ => rfl) (fun _ _ _ h => h) ?_
           refine cd (i:=16) (v:=.bool false) rfl (by kernel_rfl) (by kernel_rfl) (by kernel_rfl) (by kernel_rfl) (fun w => by kernel_rfl) (fun _ => rfl) (fun _ _ _ h => h) ?_
           refine cd (i:=17) (v:=.bool false) rfl (by kernel_rfl) (by kernel_rfl) (by kernel_rfl) (by kernel_rfl) (fun w => by kernel_rfl) (fun _ => rfl) (fun _ _ _ h => h) ?_
           refine cd (i:=18) (v:=.func (.yield l) #[] #[]) rfl (by kernel_rfl) (by kernel_rfl) (by kernel_rfl) (by kernel_rfl) (fun w => by kernel_rfl) (fun _ => rfl) (fun _ _ _ h => h) ?_
           refine cd (i:=19) (v:=.int .i64 (8 + (b.size:Int))) rfl (by kernel_rfl) (by kernel_rfl) (by kernel_rfl) (by kernel_rfl) (fun w => by kernel_rfl) (fun _ => rfl) (fun _ _ _ h => h) ?_
           refine cd (i:=20) (v:=.int .i64 (16 + (b.size:Int))) rfl (by kernel_rfl) (by kernel_rfl) (by kernel_rfl) (by kernel_rfl) (fun w => by go_simp <;> exact hw8) (fun _ => rfl) (fun _ _ _ h => h) ?_
           refine cd (i:=21) (v:=.string b) rfl (by kernel_rfl) (by kernel_rfl) (by kernel_rfl) (by kernel_rfl) (fun w => by kernel_rfl) (fun _ => rfl) (fun _ _ _ h => h) ?_
           have hj6:=hJ _ _ _ hj (.of_below h6.below)
           obtain ⟨fn,tmps,assign,body,hy,hR⟩:=hY pre (b,16 + b.size) _ hj6 hpx
           simp only [zblf,Int.natCast_add,Int.cast_ofNat_Int] at hy
           refine wpAnyIn_ready (rs:=[22]) (by kernel_rfl) (by simp) (AllReadyIn.cons rfl (fun K hK => ?_) AllReadyIn.nil)
           go_simp
           refine hR.mono ?_
           rintro e W7 ⟨rfl,hj7,hb7⟩
           refine hK _ _ ?_
           clear hK K
           refine cd (i:=23) (v:=.bool false) rfl (by kernel_rfl) (by kernel_rfl) (by kernel_rfl) (by kernel_rfl) (fun w => by kernel_rfl) (fun _ => rfl) (fun _ _ _ h => h) ?_
           refine cd (i:=24) (v:=.bool false) rfl (by kernel_rfl) (by kernel_rfl) (by kernel_rfl) (by kernel_rfl) (fun w => by kernel_rfl) (fun _ => rfl) (fun _ _ _ h => h) ?_
           refine wpAnyIn_done (by kernel_rfl) ⟨by kernel_rfl,hj7,hb7.trans (Boxed.through hb h6)⟩ _
        rintro e a W4 h4
        cases e with
        | normal =>
         obtain ⟨rfl,h4,hb4⟩:=h4
         have hc4:=hb4.cell
         have hf4:=hb4.frozen
         gi_wp2
         have hx2:=HX.out
         have hsz:=HSZ.out
         have hr:(s'.extract (16 + b.size) s'.size).size = s'.size - (16 + b.size):=by rw [ByteArray.size_extract]; omega
         refine ⟨⟨_,k,_,hx2,by omega,by omega,hb4.set _,hJ _ _ _ h4 (.set B _ _)⟩,?_⟩
         have e1:=(hb4.set (.string (s'.extract (16 + b.size) s'.size))).cell
         unfold zbek
         rw [e1,hc]
         simp only [hr]
         omega
        | _ => exact h4.elim
      · have hsz:=HSZ.out
        have hle:16 + (b.size:Int) ≤ s'.size:=by omega
        have hl0:(0:Int) ≤ 8 + (b.size:Int):=by omega
        have hl1:(8:Int) + (b.size:Int) ≤ 16 + (b.size:Int):=by omega
        have hnl:¬ (t.size:Int) < 8:=by omega
        have hl2:(8:Int) ≤ t.size:=by omega
        clear hsz
        have hst:ia s' = none:=by unfold ia; rw [hw]; exact if_neg fun q => heq q.2
        have hneq:¬ (s'.extract (8 + b.size) (16 + b.size)).toList = (qy b).toList:=fun q => heq (zbj8 q)
        refine wpIn_mono (Q:=Exit.then (fun a w => a = { tmps:=#[.func (.yield l) #[] #[],.pointer (some ⟨B,0,none⟩),undef,p,.string b,.int .i64 (8 + (b.size:Int)),.string s',p,p,.string b,.string s',.int .i64 (s'.size:Nat),p,.int .i64 (t.size:Nat),.int .i64 (8 + (b.size:Int)),p,.bool false,.bool false,p,.int .i64 (t.size:Nat),.bool false,.bool false,.bool false,.string s',.int .i64 (8 + (b.size:Int)),.int .i64 (8 + (b.size:Int)),.int .i64 (16 + (b.size:Int)),.string (s'.extract (8 + b.size) (16 + b.size)),.string b,.string (qy b),.bool true,.bool true,.bool true,undef,undef,undef,undef,undef,undef,.bool true,u40,u41,u42,u43],defers:=[] } ∧ RdS wr p (rτ ⟨t,false⟩) w) fun _ _ _ => False) ?_ ?_
        ·
         refine wpIn_region_any hmx ?_
         change wpAnyIn _ _ _ _ _ _ _ _ _ (World.drew _)
         refine cd (i:=0) (v:=p) rfl (by kernel_rfl) (by kernel_rfl) (by kernel_rfl) (by kernel_rfl) (fun w => by kernel_rfl) (fun _ => rfl) (fun _ _ _ h => h) ?_
         refine wpAnyIn_ready (rs:=[1]) (by kernel_rfl) (by simp) (AllReadyIn.cons rfl (fun K hK => ?_) AllReadyIn.nil)
         go_simp
         gi_at_call 34
         refine (callsIn_wide.2 (zbde h3.drew)).mono ?_
         rintro e W4 ⟨rfl,h4⟩
         refine hK _ _ ?_
         clear hK K
         refine cd (i:=2) (v:=.bool false) rfl (by kernel_rfl) (by kernel_rfl) (by kernel_rfl) (by kernel_rfl) (fun w => by kernel_rfl) (fun _ => rfl) (fun _ _ _ h => h) ?_
         refine cd (i:=3) (v:=p) rfl (by kernel_rfl) (by kernel_rfl) (by kernel_rfl) (by kernel_rfl) (fun w => by kernel_rfl) (fun _ => rfl) (fun _ _ _ h => h) ?_
         refine wpAnyIn_ready (rs:=[4]) (by kernel_rfl) (by simp) (AllReadyIn.cons rfl (fun K hK => ?_) AllReadyIn.nil)
         go_simp
         gi_at_call 33
         refine (callsIn_wide.2 (zbgd h4)).mono ?_
         rintro e W5 ⟨rfl,h5⟩
         refine hK _ _ ?_
         clear hK K
         refine cd (i:=5) (v:=.bool false) rfl (by kernel_rfl) (by kernel_rfl) (by kernel_rfl) (by kernel_rfl) (fun w => by go_simp) (fun _ => rfl) (fun _ _ _ h => h) ?_
         refine cd (i:=6) (v:=.bool false) rfl (by kernel_rfl) (by kernel_rfl) (by kernel_rfl) (by kernel_rfl) (fun w => by kernel_rfl) (fun _ => rfl) (fun _ _ _ h => h) ?_
         refine cd (i:=7) (v:=.bool false) rfl (by kernel_rfl) (by kernel_rfl) (by kernel_rfl) (by kernel_rfl) (fun w => by kernel_rfl) (fun _ => rfl) (fun _ _ _ h => h) ?_
         refine cd (i:=9) (v:=.int .i64 (8 + (b.size:Int))) rfl (by kernel_rfl) (by kernel_rfl) (by kernel_rfl) (by kernel_rfl) (fun w => by kernel_rfl) (fun _ => rfl) (fun _ _ _ h => h) ?_
         refine cd (i:=10) (v:=.int .i64 (8 + (b.size:Int))) rfl (by kernel_rfl) (by kernel_rfl) (by kernel_rfl) (by kernel_rfl) (fun w => by kernel_rfl) (fun _ => rfl) (fun _ _ _ h => h) ?_
         refine cd (i:=11) (v:=.int .i64 (16 + (b.size:Int))) rfl (by kernel_rfl) (by kernel_rfl) (by kernel_rfl) (by kernel_rfl) (fun w => by go_simp <;> exact hw8) (fun _ => rfl) (fun _ _ _ h => h) ?_
         refine cd (i:=13) (v:=.string b) rfl (by kernel_rfl) (by kernel_rfl) (by kernel_rfl) (by kernel_rfl) (fun w => by kernel_rfl) (fun _ => rfl) (fun _ _ _ h => h) ?_
         have hc5:=(Boxed.through hb h5).cell
         refine wpAnyIn_ready (rs:=[8,14]) (by kernel_rfl) (by simp) (AllReadyIn.cons rfl (fun K hK => ?_) (AllReadyIn.cons rfl (fun K hK => ?_) AllReadyIn.nil))
         · go_simp
           refine hK _ _ ?_
           clear hK K
           refine cd (i:=12) (v:=.string (s'.extract (8 + b.size) (16 + b.size))) rfl (by kernel_rfl) (by kernel_rfl) (by kernel_rfl) (by kernel_rfl) (fun w => by go_simp) (fun _ => rfl) (fun _ _ _ h => h) ?_
           refine wpAnyIn_ready (rs:=[14]) (by kernel_rfl) (by simp) (AllReadyIn.cons rfl (fun K hK => ?_) AllReadyIn.nil)
           go_simp
           gi_at_call 16
           refine (callsIn_wide.2 (zbnc hbs _)).mono ?_
           rintro e W6 ⟨rfl,hb6⟩
           have h6:=h5.later hb6
           refine hK _ _ ?_
           clear hK K
           refine cd (i:=15) (v:=.bool true) rfl (by kernel_rfl) (by kernel_rfl) (by kernel_rfl) (by kernel_rfl) (fun w => by go_simp <;> exact hneq) (fun _ => rfl) (fun _ _ _ h => h) ?_
           refine cd (i:=16) (v:=.bool true) rfl (by kernel_rfl) (by kernel_rfl) (by kernel_rfl) (by kernel_rfl) (fun w => by kernel_rfl) (fun _ => rfl) (fun _ _ _ h => h) ?_
           refine cd (i:=17) (v:=.bool true) rfl (by kernel_rfl) (by kernel_rfl) (by kernel_rfl) (by kernel_rfl) (fun w => by kernel_rfl) (fun _ => rfl) (fun _ _ _ h => h) ?_
           refine kw (i:=18) rfl (by kernel_rfl) (by kernel_rfl) (by kernel_rfl) (by kernel_rfl) (fun _ => rfl) (fun _ _ _ h => h) ?_
           refine kw (i:=19) rfl (by kernel_rfl) (by kernel_rfl) (by kernel_rfl) (by kernel_rfl) (fun _ => rfl) (fun _ _ _ h => h) ?_
           refine kw (i:=20) rfl (by kernel_rfl) (by kernel_rfl) (by kernel_rfl) (by kernel_rfl) (fun _ => rfl) (fun _ _ _ h => h) ?_
           refine kw (i:=21) rfl (by kernel_rfl) (by kernel_rfl) (by kernel_rfl) (by kernel_rfl) (fun _ => rfl) (fun _ _ _ h => h) ?_
           refine ut (i:=22) (by kernel_rfl) rfl (by kernel_rfl) ?_
           refine kw (i:=23) rfl (by kernel_rfl) (by kernel_rfl) (by kernel_rfl) (by kernel_rfl) (fun _ => rfl) (fun _ _ _ h => h) ?_
           refine cd (i:=24) (v:=.bool true) rfl (by kernel_rfl) (by kernel_rfl) (by kernel_rfl) (by kernel_rfl) (fun w => by kernel_rfl) (fun _ => rfl) (fun _ _ _ h => h) ?_
           refine wpAnyIn_done (by kernel_rfl) ⟨by kernel_rfl,h6⟩ _
         · go_simp
           gi_at_call 16
           refine (callsIn_wide.2 (zbnc hbs _)).mono ?_
           rintro e W6 ⟨rfl,hb6⟩
           have h6:=h5.later hb6
           refine hK _ _ ?_
           clear hK K
           have hc6:=(Boxed.through hb h6).cell
           refine wpAnyIn_ready (rs:=[8]) (by kernel_rfl) (by simp) (AllReadyIn.cons rfl (fun K hK => ?_) AllReadyIn.nil)
           go_simp
           refine hK _ _ ?_
           clear hK K
           refine cd (i:=12) (v:=.string (s'.extract (8 + b.size) (16 + b.size))) rfl (by kernel_rfl) (by kernel_rfl) (by kernel_rfl) (by kernel_rfl) (fun w => by go_simp) (fun _ => rfl) (fun _ _ _ h => h) ?_
           refine cd (i:=15) (v:=.bool true) rfl (by kernel_rfl) (by kernel_rfl) (by kernel_rfl) (by kernel_rfl) (fun w => by go_simp <;> exact hneq) (fun _ => rfl) (fun _ _ _ h => h) ?_
           refine cd (i:=16) (v:=.bool true) rfl (by kernel_rfl) (by kernel_rfl) (by kernel_rfl) (by kernel_rfl) (fun w => by kernel_rfl) (fun _ => rfl) (fun _ _ _ h => h) ?_
           refine cd (i:=17) (v:=.bool true) rfl (by kernel_rfl) (by kernel_rfl) (by kernel_rfl) (by kernel_rfl) (fun w => by kernel_rfl) (fun _ => rfl) (fun _ _ _ h => h) ?_
           refine kw (i:=18) rfl (by kernel_rfl) (by kernel_rfl) (by kernel_rfl) (by kernel_rfl) (fun _ => rfl) (fun _ _ _ h => h) ?_
           refine kw (i:=19) rfl (by kernel_rfl) (by kernel_rfl) (by kernel_rfl) (by kernel_rfl) (fun _ => rfl) (fun _ _ _ h => h) ?_
           refine kw (i:=20) rfl (by kernel_rfl) (by kernel_rfl) (by kernel_rfl) (by kernel_rfl) (fun _ => rfl) (fun _ _ _ h => h) ?_
           refine kw (i:=21) rfl (by kernel_rfl) (by kernel_rfl) (by kernel_rfl) (by kernel_rfl) (fun _ => rfl) (fun _ _ _ h => h) ?_
           refine ut (i:=22) (by kernel_rfl) rfl (by kernel_rfl) ?_
           refine kw (i:=23) rfl (by kernel_rfl) (by kernel_rfl) (by kernel_rfl) (by kernel_rfl) (fun _ => rfl) (fun _ _ _ h => h) ?_
           refine cd (i:=24) (v:=.bool true) rfl (by kernel_rfl) (by kernel_rfl) (by kernel_rfl) (by kernel_rfl) (fun w => by kernel_rfl) (fun _ => rfl) (fun _ _ _ h => h) ?_
           refine wpAnyIn_done (by kernel_rfl) ⟨by kernel_rfl,h6⟩ _
        rintro e a W4 h4
        cases e with
        | normal =>
         obtain ⟨rfl,h4⟩:=h4
         gi_wp2
         refine bodyPost_ret (results_none rfl _ _ _) rfl ?_
         exact ⟨⟨_,rfl⟩,hend hst ▸ hJ _ _ _ hj (.of_below h4.below)⟩
        | _ => exact h4.elim
    · have hst:ia s' = none:=by unfold ia; rw [hw]; exact if_neg fun q => h8 q.1
      have h8i:(t.size:Int) < 8:=by omega
      refine wpIn_mono (Q:=Exit.then (fun a w => a = { tmps:=#[.func (.yield l) #[] #[],.pointer (some ⟨B,0,none⟩),undef,p,.string b,.int .i64 (8 + (b.size:Int)),.string s',p,p,.string b,.string s',.int .i64 (s'.size:Nat),p,.int .i64 (t.size:Nat),.int .i64 (8 + (b.size:Int)),p,.bool false,.bool false,p,.int .i64 (t.size:Nat),.bool true,.bool true,.bool true,undef,undef,undef,undef,undef,undef,undef,undef,.bool true,.bool true,undef,undef,undef,undef,undef,undef,.bool true,u40,u41,u42,u43],defers:=[] } ∧ RdS wr p (rτ ⟨t,false⟩) w) fun _ _ _ => False) ?_ ?_
      ·
       refine wpIn_region_any hmx ?_
       change wpAnyIn _ _ _ _ _ _ _ _ _ (World.drew _)
       refine cd (i:=0) (v:=p) rfl (by kernel_rfl) (by kernel_rfl) (by kernel_rfl) (by kernel_rfl) (fun w => by kernel_rfl) (fun _ => rfl) (fun _ _ _ h => h) ?_
       refine wpAnyIn_ready (rs:=[1]) (by kernel_rfl) (by simp) (AllReadyIn.cons rfl (fun K hK => ?_) AllReadyIn.nil)
       go_simp
       gi_at_call 34
       refine (callsIn_wide.2 (zbde h3.drew)).mono ?_
       rintro e W4 ⟨rfl,h4⟩
       refine hK _ _ ?_
       clear hK K
       refine cd (i:=2) (v:=.bool false) rfl (by kernel_rfl) (by kernel_rfl) (by kernel_rfl) (by kernel_rfl) (fun w => by kernel_rfl) (fun _ => rfl) (fun _ _ _ h => h) ?_
       refine cd (i:=3) (v:=p) rfl (by kernel_rfl) (by kernel_rfl) (by kernel_rfl) (by kernel_rfl) (fun w => by kernel_rfl) (fun _ => rfl) (fun _ _ _ h => h) ?_
       refine wpAnyIn_ready (rs:=[4]) (by kernel_rfl) (by simp) (AllReadyIn.cons rfl (fun K hK => ?_) AllReadyIn.nil)
       go_simp
       gi_at_call 33
       refine (callsIn_wide.2 (zbgd h4)).mono ?_
       rintro e W5 ⟨rfl,h5⟩
       refine hK _ _ ?_
       clear hK K
       refine cd (i:=5) (v:=.bool true) rfl (by kernel_rfl) (by kernel_rfl) (by kernel_rfl) (by kernel_rfl) (fun w => by go_simp) (fun _ => rfl) (fun _ _ _ h => h) ?_
       refine cd (i:=6) (v:=.bool true) rfl (by kernel_rfl) (by kernel_rfl) (by kernel_rfl) (by kernel_rfl) (fun w => by kernel_rfl) (fun _ => rfl) (fun _ _ _ h => h) ?_
       refine cd (i:=7) (v:=.bool true) rfl (by kernel_rfl) (by kernel_rfl) (by kernel_rfl) (by kernel_rfl) (fun w => by kernel_rfl) (fun _ => rfl) (fun _ _ _ h => h) ?_
       refine kw (i:=8) rfl (by kernel_rfl) (by kernel_rfl) (by kernel_rfl) (by kernel_rfl) (fun _ => rfl) (fun _ _ _ h => h) ?_
       refine kw (i:=9) rfl (by kernel_rfl) (by kernel_rfl) (by kernel_rfl) (by kernel_rfl) (fun _ => rfl) (fun _ _ _ h => h) ?_
       refine kw (i:=10) rfl (by kernel_rfl) (by kernel_rfl) (by kernel_rfl) (by kernel_rfl) (fun _ => rfl) (fun _ _ _ h => h) ?_
       refine kw (i:=11) rfl (by kernel_rfl) (by kernel_rfl) (by kernel_rfl) (by kernel_rfl) (fun _ => rfl) (fun _ _ _ h => h) ?_
       refine kw (i:=12) rfl (by kernel_rfl) (by kernel_rfl) (by kernel_rfl) (by kernel_rfl) (fun _ => rfl) (fun _ _ _ h => h) ?_
       refine kw (i:=13) rfl (by kernel_rfl) (by kernel_rfl) (by kernel_rfl) (by kernel_rfl) (fun _ => rfl) (fun _ _ _ h => h) ?_
       refine ut (i:=14) (by kernel_rfl) rfl (by kernel_rfl) ?_
       refine kw (i:=15) rfl (by kernel_rfl) (by kernel_rfl) (by kernel_rfl) (by kernel_rfl) (fun _ => rfl) (fun _ _ _ h => h) ?_
       refine cd (i:=16) (v:=.bool true) rfl (by kernel_rfl) (by kernel_rfl) (by kernel_rfl) (by kernel_rfl) (fun w => by kernel_rfl) (fun _ => rfl) (fun _ _ _ h => h) ?_
       refine cd (i:=17) (v:=.bool true) rfl (by kernel_rfl) (by kernel_rfl) (by kernel_rfl) (by kernel_rfl) (fun w => by kernel_rfl) (fun _ => rfl) (fun _ _ _ h => h) ?_
       refine kw (i:=18) rfl (by kernel_rfl) (by kernel_rfl) (by kernel_rfl) (by kernel_rfl) (fun _ => rfl) (fun _ _ _ h => h) ?_
       refine kw (i:=19) rfl (by kernel_rfl) (by kernel_rfl) (by kernel_rfl) (by kernel_rfl) (fun _ => rfl) (fun _ _ _ h => h) ?_
       refine kw (i:=20) rfl (by kernel_rfl) (by kernel_rfl) (by kernel_rfl) (by kernel_rfl) (fun _ => rfl) (fun _ _ _ h => h) ?_
       refine kw (i:=21) rfl (by kernel_rfl) (by kernel_rfl) (by kernel_rfl) (by kernel_rfl) (fun _ => rfl) (fun _ _ _ h => h) ?_
       refine ut (i:=22) (by kernel_rfl) rfl (by kernel_rfl) ?_
       refine kw (i:=23) rfl (by kernel_rfl) (by kernel_rfl) (by kernel_rfl) (by kernel_rfl) (fun _ => rfl) (fun _ _ _ h => h) ?_
       refine cd (i:=24) (v:=.bool true) rfl (by kernel_rfl) (by kernel_rfl) (by kernel_rfl) (by kernel_rfl) (fun w => by kernel_rfl) (fun _ => rfl) (fun _ _ _ h => h) ?_
       refine wpAnyIn_done (by kernel_rfl) ⟨by kernel_rfl,h5⟩ _
      rintro e a W4 h4
      cases e with
      | normal =>
       obtain ⟨rfl,h4⟩:=h4
       gi_wp2
       refine bodyPost_ret (results_none rfl _ _ _) rfl ?_
       exact ⟨⟨_,rfl⟩,hend hst ▸ hJ _ _ _ hj (.of_below h4.below)⟩
      | _ => exact h4.elim
   | _ => exact h3.elim
end Go.Proofs.Ytgkkienmocpnbaa.Wl
