import Derived.Test.YtgkkienmocpnbaaM22
import Derived.Maps.OwnIn
set_option linter.unusedVariables false
set_option linter.unusedSimpArgs false
set_option linter.unusedSectionVars false
namespace Go.Proofs.Ytgkkienmocpnbaa.Wl
open Go Go.RowKit Sh Ic
def rτ (r:Rd):TH:=⟨[⟨aq,[.str r.s_,.bool r.bad_]⟩],0⟩
theorem RdS.drew {W0 W:World} {p:Value} {τ:TH} (h:RdS W0 p τ W):RdS W0 p τ W.drew:=h.later ((Below.refl _ _).drew)
theorem sc1 {v:TV} {w:Value} (h:Sc v w):∀ i,i < [v].length → Sc ([v].getD i .undef) ([w].getD i undef):=fun i hi => by
 obtain rfl:i = 0:=by simpa using hi
 exact h
theorem sc0:∀ i,i < ([]:List TV).length → Sc (([]:List TV).getD i .undef) (([]:List Value).getD i undef):=fun i hi => absurd hi (Nat.not_lt_zero _)
theorem zbow (s:ByteArray) (W:World):Calls Try.prog 31 #[.string s] W fun e W' => ∃ p,e = .returned p ∧ RdS W p (rτ ⟨s,false⟩) W' :=
 zbdt gok (zcim s ⟨s,false⟩ rfl ⟨[],0⟩ (Nat.le_refl _)) rfl (sc1 (.str s)) W
theorem numW_eq (l:List UInt8):zbin l = nd 0 l:=rfl
theorem text_some {s b t:ByteArray} (h:xo s = some (b,t)):Rd.text ⟨s,false⟩ 1048576 = (b,⟨t,false⟩) ∧ (s.size:Int) = 8 + b.size + t.size ∧ b.size ≤ 1048576 ∧ b = s.extract 8 (8 + b.size) ∧ t = s.extract (8 + b.size) s.size:=by
 unfold xo at h
 split at h
 · rename_i hc
   obtain ⟨h8,h0,h1,h2⟩:=hc
   rw [numW_eq] at *
   simp only [Option.some.injEq,Prod.mk.injEq] at h
   obtain ⟨rfl,rfl⟩:=h
   have e1:Rd.take ⟨s,false⟩ 8 = (s.extract 0 8,⟨s.extract 8 s.size,false⟩):=by unfold Rd.take; rw [if_pos ⟨rfl,by omega,by simp only; omega⟩]; rfl
   have e2:Rd.num ⟨s,false⟩ = (nd 0 (s.extract 0 8).data.toList,⟨s.extract 8 s.size,false⟩):=by unfold Rd.num; rw [e1]
   have e3:Rd.count ⟨s,false⟩ 1048576 = (nd 0 (s.extract 0 8).data.toList,⟨s.extract 8 s.size,false⟩):=by
    unfold Rd.count; rw [e2,if_neg (by simp only; omega)]
   generalize nd 0 (s.extract 0 8).data.toList = n at *
   obtain ⟨k,rfl⟩:=Int.eq_ofNat_of_zero_le h0
   have sz:(s.extract 8 s.size).size = s.size - 8:=by rw [ByteArray.size_extract]; omega
   have sb:(s.extract 8 (8 + k)).size = k:=by rw [ByteArray.size_extract]; omega
   have st:(s.extract (8 + k) s.size).size = s.size - (8 + k):=by rw [ByteArray.size_extract]; omega
   rw [Int.toNat_natCast]
   refine ⟨?_,by rw [sb,st]; omega,by rw [sb]; omega,by rw [sb],by rw [sb]⟩
   unfold Rd.text
   rw [e3]
   unfold Rd.take
   rw [if_pos ⟨rfl,by simp only; omega,by simp only; rw [sz]; omega⟩]
   simp only [Int.ofNat_eq_natCast,Int.toNat_natCast,Prod.mk.injEq,Rd,ac.mk.injEq,and_true]
   rw [sz,ByteArray.extract_extract,ByteArray.extract_extract]
   exact ⟨by congr 1; omega,by congr 1; omega⟩
 · cases h
theorem za9q {s:ByteArray} (h:xo s = none):Rd.text ⟨s,false⟩ 1048576 = (⟨#[]⟩,⟨⟨#[]⟩,true⟩):=by
 unfold xo at h
 split at h
 · cases h
 · rename_i hc
   rw [numW_eq] at hc
   unfold Rd.text Rd.count Rd.num
   by_cases h8:8 ≤ s.size
   · have e1:Rd.take ⟨s,false⟩ 8 = (s.extract 0 8,⟨s.extract 8 s.size,false⟩):=by unfold Rd.take; rw [if_pos ⟨rfl,by omega,by simp only; omega⟩]; rfl
     have sz:(s.extract 8 s.size).size = s.size - 8:=by rw [ByteArray.size_extract]; omega
     rw [e1]
     simp only
     generalize nd 0 (s.extract 0 8).data.toList = n at *
     by_cases h1:n < 0 ∨ 1048576 < n
     · rw [if_pos h1]; rfl
     · rw [if_neg h1]
       unfold Rd.take
       rw [if_neg]
       · rfl
       · rintro ⟨-,q1,q2⟩
         simp only at q1 q2
         rw [sz] at q2
         exact hc ⟨h8,by omega,by omega,by omega⟩
   · have e1:Rd.take ⟨s,false⟩ 8 = (⟨#[]⟩,Rd.fail):=by
      unfold Rd.take; rw [if_neg]; rintro ⟨-,-,q⟩; simp only at q; omega
     rw [e1]
     simp only [Rd.fail]
     split <;> rfl
theorem zbhb {s b:ByteArray} {r:Rd} (h:Rd.text ⟨s,false⟩ 1048576 = (b,r)) {W0 W:World} {p:Value} (hp:RdS W0 p (rτ ⟨s,false⟩) W) :
 Calls Try.prog 32 #[p,.int .i64 1048576] W fun e W' => e = .returned (.string b) ∧ RdS W0 p (rτ r) W' :=
 zbr2 gok (rv ⟨s,false⟩ 1048576 (b,r) (by rw [zbn3,h]) (rτ ⟨s,false⟩) 0 (Nat.zero_le _) rfl (Nat.one_pos) (Nat.le_refl _)) rfl (sc1 (.int .i64 1048576)) (.str b) hp
theorem zbjx {r:Rd} {W0 W:World} {p:Value} (hp:RdS W0 p (rτ r) W) :
 Calls Try.prog 33 #[p] W fun e W' => e = .returned (.int .i64 (r.s_.size:Nat)) ∧ RdS W0 p (rτ r) W' :=
 zbr2 gok (li r _ rfl (rτ r) 0 (Nat.zero_le _) rfl (Nat.one_pos)) rfl sc0 (.int .i64 _) hp
theorem zbgs {r:Rd} {W0 W:World} {p:Value} (hp:RdS W0 p (rτ r) W) :
 Calls Try.prog 34 #[p] W fun e W' => e = .returned (.bool r.bad_) ∧ RdS W0 p (rτ r) W' :=
 zbr2 gok (ml r _ rfl (rτ r) 0 (Nat.zero_le _) rfl (Nat.one_pos)) rfl sc0 (.bool _) hp
theorem seal_f (s:ByteArray) (h:s.size < 10000000000):ub s = some (qy s):=by
 unfold ub qy
 rw [zbog s h,obz,if_pos ⟨by omega,by rw [zbqe]; omega⟩]
theorem zbrl {s:ByteArray} (h:s.size ≤ 1048576) (W:World):Calls Try.prog 16 #[.string s] W fun e W' => e = .returned (.string (qy s)) ∧ Below W.heap.size W W' :=
 zbgp gok (zbtz s _ (seal_f s (by omega)) ⟨[],0⟩ (Nat.le_refl _)) rfl (sc1 (.str s)) (.str _) W
open Go Go.RowKit Sh Ic
attribute [local go_sem] Oper.semAt_some
theorem za80 (f:Nat):Fence.wide.fn f = True:=rfl
theorem za81:(Fence.wide.depth.isSome = true) = False:=by simp [Fence.wide]
attribute [local go_sem] za80 za81
section
variable {n:Nat} {P:Program} {ops:Array Oper} {Q:Exit → Act → World → Prop} {md:Region.Mode} {i:Nat} {oi:Oper} {v:Value} {fuel:Nat} {listed:Array Bool} {a:Act} {w:World}
theorem cd (hi:ops[i]? = some oi) (hs:Region.noSelect ops = true) (hf:Region.free md ops listed i = true) (hr:(Region.ready md ops listed).contains i = true) (hw:Region.wanted oi (yielded ops a.tmps) = true)
 (hv:∀ w,(execOp a.eval oi).run P w = .ok (.value v) w) (hb:∀ w,oi.about P w a.eval = none) (hQ:∀ c a w,Q (.panic c) (a.put oi.dst v) w → Q (.panic c) a w)
 (h:wpAnyIn Fence.wide n P md ops Q fuel (listed.setIfInBounds i true) (a.put oi.dst v) w):wpAnyIn Fence.wide n P md ops Q (fuel + 1) listed a w :=
 wpAnyIn_take rfl hi hs hf hr hQ ⟨Or.inl ⟨hw,hv⟩,hb⟩ h
theorem kw (hi:ops[i]? = some oi) (hs:Region.noSelect ops = true) (hf:Region.free md ops listed i = true) (hr:(Region.ready md ops listed).contains i = true) (hw:Region.wanted oi (yielded ops a.tmps) = false)
 (hb:∀ w,oi.about P w a.eval = none) (hQ:∀ c a w,Q (.panic c) (a.put oi.dst undef) w → Q (.panic c) a w)
 (h:wpAnyIn Fence.wide n P md ops Q fuel (listed.setIfInBounds i true) (a.put oi.dst undef) w):wpAnyIn Fence.wide n P md ops Q (fuel + 1) listed a w :=
 wpAnyIn_take rfl hi hs hf hr hQ ⟨Or.inr ⟨hw,rfl⟩,hb⟩ h
theorem ut (hr:Region.ready md ops listed = [i]) (hi:ops[i]? = some oi) (hw:Region.wanted oi (yielded ops a.tmps) = false)
 (h:wpAnyIn Fence.wide n P md ops Q fuel (listed.setIfInBounds i true) (a.put oi.dst undef) w):wpAnyIn Fence.wide n P md ops Q (fuel + 1) listed a w :=
 wpAnyIn_ready hr (by simp) (AllReadyIn.cons hi (fun K hK => by rw [if_neg (by rw [hw]; decide)]; exact ⟨fun _ _ => trivial,hK _ _ h⟩) AllReadyIn.nil)
end
theorem bl (bs:ByteArray):∀ n i r,bs.size - i = n → ByteArray.toList.loop bs i r = r.reverse ++ bs.data.toList.drop i:=by
 intro n
 induction n with
 | zero =>
  intro i r h
  rw [ByteArray.toList.loop,if_neg (by omega),List.drop_eq_nil_of_le (by show bs.data.toList.length ≤ i; rw [Array.length_toList]; show bs.size ≤ i; omega),List.append_nil]
 | succ n ih =>
  intro i r h
  rw [ByteArray.toList.loop,if_pos (by omega),ih _ _ (by omega),List.reverse_cons,List.append_assoc]
  have hi:i < bs.data.toList.length:=by rw [Array.length_toList]; show i < bs.size; omega
  rw [List.drop_eq_getElem_cons hi]
  congr 1
  have hi2:i < bs.data.size:=by rw [← Array.length_toList]; exact hi
  simp only [ByteArray.get!]
  rw [getElem!_pos bs.data i hi2]
  simp
theorem zbn1 {a b:ByteArray} (h:a.toList = b.toList):a = b:=by
 unfold ByteArray.toList at h
 rw [bl a _ 0 [] rfl,bl b _ 0 [] rfl] at h
 exact ByteArray.ext (Array.ext' (by simpa using h))
theorem Hid.mk' {p:Prop} (h:p):Hid p:=h
def zbpe (x:ByteArray × Nat):Array Value:=#[.int .i64 (x.2:Nat),.string x.1]
def zbh0 (B:Nat) (W:World):Nat:=match W.cell? ⟨B,0,none⟩ with | some (.string s) => s.size | _ => 0
theorem Boxed.through {W W':World} {B:Nat} {T:TypeId} {v:Value} {p:Value} {τ:TH} (h:Boxed W B T v) (hr:RdS W p τ W'):Boxed W' B T v:=(hr.below.block B h.lt).trans h
set_option maxRecDepth 100000 in
set_option maxHeartbeats 4000000 in
theorem zax0 (n:Nat) (hn:3 ≤ n) (B l:Nat) (s:ByteArray) (hs:s.size ≤ 1000000000) (J:List (ByteArray × Nat) → World → Prop) (W:World) (hB:Boxed W B 9 (.string s)) (hJ:∀ ys W1 W2,J ys W1 → Asd B W1 W2 → J ys W2)
 (hY:∀ pre x W1,J pre W1 → pre ++ [x] <+: vu s.size s → YieldAt Fence.wide (n - 1) Try.prog l (zbpe x) W1 fun e W' => e = .returned (.bool true) ∧ J (pre ++ [x]) W' ∧ W'.heap[B]? = W1.heap[B]?)
 (h0:J [] W):CallsIn Fence.wide n Try.prog 30 #[.func (.yield l) #[] #[],.pointer (some ⟨B,0,none⟩)] W fun e W' => (∃ v,e = .returned v) ∧ J (vu s.size s) W':=by
 have hmx:Try.prog.follows .mixedOrders = true:=by kernel_rfl
 refine callsIn_of_wp Try.func30 rfl trivial ?_ rfl
 simp only [Try.ntmps30,List.size_toArray,List.length_cons,List.length_nil,Nat.reduceAdd,Nat.reduceSub,Array.replicate_succ,Array.replicate_zero,List.push_toArray,List.append_toArray,List.nil_append,List.cons_append]
 gi_wp2
 gi_loopw [] (fun wr => ∃ pre k s',vu s.size s = pre ++ vu k s' ∧ s'.size ≤ k ∧ s'.size ≤ 1000000000 ∧ Boxed wr B 9 (.string s') ∧ J pre wr) (fun wr => zbh0 B wr)
 case atStart =>
  exact ⟨[],s.size,s,rfl,Nat.le_refl _,hs,hB,h0⟩
 case round =>
  obtain ⟨pre,k,s',hx,hk,hs',hb,hj⟩:=hrel
  have hc:=hb.cell
  have hf:=hb.frozen
  have hend:ia s' = none → pre = vu s.size s:=fun q => by
   rw [hx]
   cases k with
   | zero => exact (List.append_nil _).symm
   | succ k => unfold vu; rw [q]; exact (List.append_nil _).symm
  cases hw:xo s' with
  | none =>
   have ht:=za9q hw
   have hwn:IntKind.i64.wrap (s'.size:Int) = (s'.size:Int):=w64 (by omega) (by omega)
   have hst:ia s' = none:=by unfold ia; rw [hw]; rfl
   gi_wp2
   gi_at_call 31
   refine (callsIn_wide.2 (zbow s' _)).mono ?_
   rintro e W1 ⟨p,rfl,h1⟩
   gi_wp2
   gi_at_call 32
   refine (callsIn_wide.2 (zbhb ht h1)).mono ?_
   rintro e W2 ⟨rfl,h2⟩
   clear h1
   have hc1:=(Boxed.through hb h2.drew).cell
   gi_wp2
   refine wpIn_mono (Q:=Exit.then (fun a w => a = { tmps:=#[.func (.yield l) #[] #[],.pointer (some ⟨B,0,none⟩),undef,p,.string ⟨#[]⟩,.int .i64 (s'.size:Nat),.string s',p,p,.string ⟨#[]⟩,.string s',.int .i64 (s'.size:Nat),p,.int .i64 0,.int .i64 (s'.size:Nat),u15,u16,u17,u18,u19,u20,u21,u22,u23,u24,u25,u26,u27,u28,u29,u30,u31,u32,u33,u34,u35,u36,u37,u38,u39,u40,u41,u42,u43],defers:=[] } ∧ RdS wr p (rτ ⟨⟨#[]⟩,true⟩) w) fun _ _ _ => False) ?_ ?_
   ·
    refine wpIn_region_any hmx ?_
    change wpAnyIn _ _ _ _ _ _ _ _ _ (World.drew _)
    refine cd (i:=2) (v:=p) rfl (by kernel_rfl) (by kernel_rfl) (by kernel_rfl) (by kernel_rfl) (fun w => by kernel_rfl) (fun _ => rfl) (fun _ _ _ h => h) ?_
    refine wpAnyIn_ready (rs:=[0,3]) (by kernel_rfl) (by simp) (AllReadyIn.cons rfl (fun K hK => ?_) (AllReadyIn.cons rfl (fun K hK => ?_) AllReadyIn.nil))
    · go_simp
      refine hK _ _ ?_
      clear hK K
      refine cd (i:=1) (v:=.int .i64 (s'.size:Nat)) rfl (by kernel_rfl) (by kernel_rfl) (by kernel_rfl) (by kernel_rfl) (fun w => by go_simp) (fun _ => rfl) (fun _ _ _ h => h) ?_
      refine wpAnyIn_ready (rs:=[3]) (by kernel_rfl) (by simp) (AllReadyIn.cons rfl (fun K hK => ?_) AllReadyIn.nil)
      go_simp
      gi_at_call 33
      refine (callsIn_wide.2 (zbjx h2.drew)).mono ?_
      rintro e W3 ⟨rfl,h3⟩
      refine hK _ _ ?_
      clear hK K
      refine cd (i:=4) (v:=.int .i64 (s'.size:Nat)) rfl (by kernel_rfl) (by kernel_rfl) (by kernel_rfl) (by kernel_rfl) (fun w => by go_simp <;> exact hwn) (fun _ => rfl) (fun _ _ _ h => h) ?_
      refine cd (i:=5) (v:=.int .i64 (s'.size:Nat)) rfl (by kernel_rfl) (by kernel_rfl) (by kernel_rfl) (by kernel_rfl) (fun w => by kernel_rfl) (fun _ => rfl) (fun _ _ _ h => h) ?_
      refine wpAnyIn_done (by kernel_rfl) ⟨by kernel_rfl,h3⟩ _
    · go_simp
      gi_at_call 33
      refine (callsIn_wide.2 (zbjx h2.drew)).mono ?_
      rintro e W3 ⟨rfl,h3⟩
      refine hK _ _ ?_
      clear hK K
      have hc3:=(Boxed.through hb h3).cell
      refine wpAnyIn_ready (rs:=[0]) (by kernel_rfl) (by simp) (AllReadyIn.cons rfl (fun K hK => ?_) AllReadyIn.nil)
      go_simp
      refine hK _ _ ?_
      clear hK K
      refine cd (i:=1) (v:=.int .i64 (s'.size:Nat)) rfl (by kernel_rfl) (by kernel_rfl) (by kernel_rfl) (by kernel_rfl) (fun w => by go_simp) (fun _ => rfl) (fun _ _ _ h => h) ?_
      refine cd (i:=4) (v:=.int .i64 (s'.size:Nat)) rfl (by kernel_rfl) (by kernel_rfl) (by kernel_rfl) (by kernel_rfl) (fun w => by go_simp <;> exact hwn) (fun _ => rfl) (fun _ _ _ h => h) ?_
      refine cd (i:=5) (v:=.int .i64 (s'.size:Nat)) rfl (by kernel_rfl) (by kernel_rfl) (by kernel_rfl) (by kernel_rfl) (fun w => by kernel_rfl) (fun _ => rfl) (fun _ _ _ h => h) ?_
      refine wpAnyIn_done (by kernel_rfl) ⟨by kernel_rfl,h3⟩ _
   rintro e a W3 h3
   cases e with
   | normal =>
    obtain ⟨rfl,h3⟩:=h3
    gi_wp2
    refine wpIn_mono (Q:=Exit.then (fun a w => a = { tmps:=#[.func (.yield l) #[] #[],.pointer (some ⟨B,0,none⟩),undef,p,.string ⟨#[]⟩,.int .i64 (s'.size:Nat),.string s',p,p,.string ⟨#[]⟩,.string s',.int .i64 (s'.size:Nat),p,.int .i64 0,.int .i64 (s'.size:Nat),p,.bool true,.bool true,undef,undef,undef,.bool true,.bool true,undef,undef,undef,undef,undef,undef,undef,undef,.bool true,.bool true,undef,undef,undef,undef,undef,undef,.bool true,u40,u41,u42,u43],defers:=[] } ∧ RdS wr p (rτ ⟨⟨#[]⟩,true⟩) w) fun _ _ _ => False) ?_ ?_
    ·
     refine wpIn_region_any hmx ?_
     change wpAnyIn _ _ _ _ _ _ _ _ _ (World.drew _)
     refine cd (i:=0) (v:=p) rfl (by kernel_rfl) (by kernel_rfl) (by kernel_rfl) (by kernel_rfl) (fun w => by kernel_rfl) (fun _ => rfl) (fun _ _ _ h => h) ?_
     refine wpAnyIn_ready (rs:=[1]) (by kernel_rfl) (by simp) (AllReadyIn.cons rfl (fun K hK => ?_) AllReadyIn.nil)
     go_simp
     gi_at_call 34
     refine (callsIn_wide.2 (zbgs h3.drew)).mono ?_
     rintro e W4 ⟨rfl,h4⟩
     refine hK _ _ ?_
     clear hK K
     refine cd (i:=2) (v:=.bool true) rfl (by kernel_rfl) (by kernel_rfl) (by kernel_rfl) (by kernel_rfl) (fun w => by kernel_rfl) (fun _ => rfl) (fun _ _ _ h => h) ?_
     refine kw (i:=3) rfl (by kernel_rfl) (by kernel_rfl) (by kernel_rfl) (by kernel_rfl) (fun _ => rfl) (fun _ _ _ h => h) ?_
     refine ut (i:=4) (by kernel_rfl) rfl (by kernel_rfl) ?_
     refine kw (i:=5) rfl (by kernel_rfl) (by kernel_rfl) (by kernel_rfl) (by kernel_rfl) (fun _ => rfl) (fun _ _ _ h => h) ?_
     refine cd (i:=6) (v:=.bool true) rfl (by kernel_rfl) (by kernel_rfl) (by kernel_rfl) (by kernel_rfl) (fun w => by kernel_rfl) (fun _ => rfl) (fun _ _ _ h => h) ?_
     refine cd (i:=7) (v:=.bool true) rfl (by kernel_rfl) (by kernel_rfl) (by kernel_rfl) (by kernel_rfl) (fun w => by kernel_rfl) (fun _ => rfl) (fun _ _ _ h => h) ?_
     refine kw (i:=8) rfl (by kernel_rfl) (by kernel_rfl) (by kernel_rfl) (by kernel_rfl) (fun _ => rfl) (fun _ _ _ h => h) ?_
     refine kw (i:=9) rfl (by kernel_rfl) (by kernel_rfl) (by kernel_rfl) (by kernel_rfl) (fun _ => rfl) (fun _ _ _ h => h) ?_
     refine kw (i:=10) rfl (by kernel_rfl) (by kernel_rfl) (by kernel_rfl) (by kernel_rfl) (fun _ => rfl) (fun _ _ _ h => h) ?_
     refine kw (i:=11) rfl (by kernel_rfl) (by kernel_rfl) (by kernel_rfl) (by kernel_rfl) (fun _ => rfl) (fun _ _ _ h => h) ?_
     refine kw (i:=12) rfl (by kernel_rfl) (by kernel_rfl) (by kernel_rfl) (by kernel_rfl) (fun _ => rfl) (fun _ _ _ h => h) ?_
     refine kw (i:=13) rfl (by kernel_rfl) (by kernel_rfl) (by kernel_rfl) (by kernel_rfl) (fun _ => rfl) (fun _ _ _ h => h) ?_
     refine ut (i:=14) (by kernel_rfl) rfl (by kernel_rfl) ?_
     refine kw (i:=15) rfl (by kernel_rfl) (by kernel_rfl) (by kernel_rfl) (by kernel_rfl) (fun _ => rfl) (fun _ _ _ h => h) ?_
     refine cd (i:=16) (v:=.bool true) rfl (by kernel_rfl) (by kernel_rfl) (by kernel_rfl) (by kernel_rfl) (fun w => by kernel_rfl) (fun _ => rfl) (fun _ _ _ h => h) ?_
     refine cd (i:=17) (v:=.bool true) rfl (by kernel_rfl) (by kernel_rfl) (by kernel_rfl) (by kernel_rfl) (fun w => by kernel_rfl) (fun _ => rfl) (fun _ _ _ h => h) ?_
     refine kw (i:=18) rfl (by kernel_rfl) (by kernel_rfl) (by kernel_rfl) (by kernel_rfl) (fun _ => rfl) (fun _ _ _ h => h) ?_
     refine kw (i:=19) rfl (by kernel_rfl) (by kernel_rfl) (by kernel_rfl) (by kernel_rfl) (fun _ => rfl) (fun _ _ _ h => h) ?_
     refine kw (i:=20) rfl (by kernel_rfl) (by kernel_rfl) (by kernel_rfl) (by kernel_rfl) (fun _ => rfl) (fun _ _ _ h => h) ?_
     refine kw (i:=21) rfl (by kernel_rfl) (by kernel_rfl) (by kernel_rfl) (by kernel_rfl) (fun _ => rfl) (fun _ _ _ h => h) ?_
     refine ut (i:=22) (by kernel_rfl) rfl (by kernel_rfl) ?_
     refine kw (i:=23) rfl (by kernel_rfl) (by kernel_rfl) (by kernel_rfl) (by kernel_rfl) (fun _ => rfl) (fun _ _ _ h => h) ?_
     refine cd (i:=24) (v:=.bool true) rfl (by kernel_rfl) (by kernel_rfl) (by kernel_rfl) (by kernel_rfl) (fun w => by kernel_rfl) (fun _ => rfl) (fun _ _ _ h => h) ?_
     refine wpAnyIn_done (by kernel_rfl) ⟨by kernel_rfl,h4⟩ _
    rintro e a W4 h4
    cases e with
    | normal =>
     obtain ⟨rfl,h4⟩:=h4
     gi_wp2
     refine bodyPost_ret (results_none rfl _ _ _) rfl ?_
     exact ⟨⟨_,rfl⟩,hend hst ▸ hJ _ _ _ hj (.of_below h4.below)⟩
    | _ => exact h4.elim
   | _ => exact h3.elim
  | some x =>
   obtain ⟨b,t⟩:=x
   obtain ⟨ht,hsz,hbs,-,-⟩:=text_some hw
   have hwn:IntKind.i64.wrap ((s'.size:Int) - (t.size:Int)) = 8 + (b.size:Int):=by rw [w64 (by omega) (by omega)]; omega
   have hw8:IntKind.i64.wrap (8 + (b.size:Int) + 8) = 16 + (b.size:Int):=by rw [w64 (by omega) (by omega)]; omega
   have ht8:(8 + (b.size:Int)).toNat = 8 + b.size:=by omega
   have ht16:(16 + (b.size:Int)).toNat = 16 + b.size:=by omega
   have HSZ:=Hid.mk' hsz
   clear hsz
   gi_wp2
   gi_at_call 31
   refine (callsIn_wide.2 (zbow s' _)).mono ?_
   rintro e W1 ⟨p,rfl,h1⟩
   gi_wp2
   gi_at_call 32
   refine (callsIn_wide.2 (zbhb ht h1)).mono ?_
   rintro e W2 ⟨rfl,h2⟩
   clear h1
   have hc1:=(Boxed.through hb h2.drew).cell
   gi_wp2
   refine wpIn_mono (Q:=Exit.then (fun a w => a = { tmps:=#[.func (.yield l) #[] #[],.pointer (some ⟨B,0,none⟩),undef,p,.string b,.int .i64 (8 + (b.size:Int)),.string s',p,p,.string b,.string s',.int .i64 (s'.size:Nat),p,.int .i64 (t.size:Nat),.int .i64 (8 + (b.size:Int)),u15,u16,u17,u18,u19,u20,u21,u22,u23,u24,u25,u26,u27,u28,u29,u30,u31,u32,u33,u34,u35,u36,u37,u38,u39,u40,u41,u42,u43],defers:=[] } ∧ RdS wr p (rτ ⟨t,false⟩) w) fun _ _ _ => False) ?_ ?_
   ·
    refine wpIn_region_any hmx ?_
    change wpAnyIn _ _ _ _ _ _ _ _ _ (World.drew _)
    refine cd (i:=2) (v:=p) rfl (by kernel_rfl) (by kernel_rfl) (by kernel_rfl) (by kernel_rfl) (fun w => by kernel_rfl) (fun _ => rfl) (fun _ _ _ h => h) ?_
    refine wpAnyIn_ready (rs:=[0,3]) (by kernel_rfl) (by simp) (AllReadyIn.cons rfl (fun K hK => ?_) (AllReadyIn.cons rfl (fun K hK => ?_) AllReadyIn.nil))
    · go_simp
      refine hK _ _ ?_
      clear hK K
      refine cd (i:=1) (v:=.int .i64 (s'.size:Nat)) rfl (by kernel_rfl) (by kernel_rfl) (by kernel_rfl) (by kernel_rfl) (fun w => by go_simp) (fun _ => rfl) (fun _ _ _ h => h) ?_
      refine wpAnyIn_ready (rs:=[3]) (by kernel_rfl) (by simp) (AllReadyIn.cons rfl (fun K hK => ?_) AllReadyIn.nil)
      go_simp
      gi_at_call 33
      refine (callsIn_wide.2 (zbjx h2.drew)).mono ?_
      rintro e W3 ⟨rfl,h3⟩
      refine hK _ _ ?_
      clear hK K
      refine cd (i:=4) (v:=.int .i64 (8 + (b.size:Int))) rfl (by kernel_rfl) (by kernel_rfl) (by kernel_rfl) (by kernel_rfl) (fun w => by go_simp <;> exact hwn) (fun _ => rfl) (fun _ _ _ h => h) ?_
      refine cd (i:=5) (v:=.int .i64 (8 + (b.size:Int))) rfl (by kernel_rfl) (by kernel_rfl) (by kernel_rfl) (by kernel_rfl) (fun w => by kernel_rfl) (fun _ => rfl) (fun _ _ _ h => h) ?_
      refine wpAnyIn_done (by kernel_rfl) ⟨by kernel_rfl,h3⟩ _
    · go_simp
      gi_at_call 33
      refine (callsIn_wide.2 (zbjx h2.drew)).mono ?_
      rintro e W3 ⟨rfl,h3⟩
      refine hK _ _ ?_
      clear hK K
      have hc3:=(Boxed.through hb h3).cell
      refine wpAnyIn_ready (rs:=[0]) (by kernel_rfl) (by simp) (AllReadyIn.cons rfl (fun K hK => ?_) AllReadyIn.nil)
      go_simp
      refine hK _ _ ?_
      clear hK K
      refine cd (i:=1) (v:=.int .i64 (s'.size:Nat)) rfl (by kernel_rfl) (by kernel_rfl) (by kernel_rfl) (by kernel_rfl) (fun w => by go_simp) (fun _ => rfl) (fun _ _ _ h => h) ?_
      refine cd (i:=4) (v:=.int .i64 (8 + (b.size:Int))) rfl (by kernel_rfl) (by kernel_rfl) (by kernel_rfl) (by kernel_rfl) (fun w => by go_simp <;> exact hwn) (fun _ => rfl) (fun _ _ _ h => h) ?_
      refine cd (i:=5) (v:=.int .i64 (8 + (b.size:Int))) rfl (by kernel_rfl) (by kernel_rfl) (by kernel_rfl) (by kernel_rfl) (fun w => by kernel_rfl) (fun _ => rfl) (fun _ _ _ h => h) ?_
      refine wpAnyIn_done (by kernel_rfl) ⟨by kernel_rfl,h3⟩ _
   rintro e a W3 h3
   cases e with
   | normal =>
    obtain ⟨rfl,h3⟩:=h3
    gi_wp2
    by_cases h8:8 ≤ t.size
    · by_cases heq:s'.extract (8 + b.size) (16 + b.size) = qy b
      · have hsz:=HSZ.out
        have hle:16 + (b.size:Int) ≤ s'.size:=by omega
        have hl0:(0:Int) ≤ 8 + (b.size:Int):=by omega
        have hl1:(8:Int) + (b.size:Int) ≤ 16 + (b.size:Int):=by omega
        have hnl:¬ (t.size:Int) < 8:=by omega
        have hl2:(8:Int) ≤ t.size:=by omega
        clear hsz
        obtain ⟨k,rfl⟩:∃ k',k = k' + 1:=⟨k - 1,by have:=HSZ.out; omega⟩
        have hst:ia s' = some (b,16 + b.size,s'.extract (16 + b.size) s'.size):=by unfold ia; rw [hw]; exact if_pos ⟨h8,heq⟩
        have hx2:vu s.size s = (pre ++ [(b,16 + b.size)]) ++ vu k (s'.extract (16 + b.size) s'.size):=by
         rw [hx]
         simp only [vu,hst,List.append_assoc,List.singleton_append]
        have hpx:pre ++ [(b,16 + b.size)] <+: vu s.size s:=⟨_,hx2.symm⟩
        clear hx hst
        have HX:=Hid.mk' hx2
        clear hx2
        refine wpIn_mono (Q:=Exit.then (fun a w => a = { tmps:=#[.func (.yield l) #[] #[],.pointer (some ⟨B,0,none⟩),undef,p,.string b,.int .i64 (8 + (b.size:Int)),.string s',p,p,.string b,.string s',.int .i64 (s'.size:Nat),p,.int .i64 (t.size:Nat),.int .i64 (8 + (b.size:Int)),p,.bool false,.bool false,p,.int .i64 (t.size:Nat),.bool false,.bool false,.bool false,.string s',.int .i64 (8 + (b.size:Int)),.int .i64 (8 + (b.size:Int)),.int .i64 (16 + (b.size:Int)),.string (qy b),.string b,.string (qy b),.bool false,.bool false,.bool false,.func (.yield l) #[] #[],.int .i64 (8 + (b.size:Int)),.int .i64 (16 + (b.size:Int)),.string b,.bool true,.bool false,.bool false,u40,u41,u42,u43],defers:=[] } ∧ J (pre ++ [(b,16 + b.size)]) w ∧ Boxed w B 9 (.string s')) fun _ _ _ => False) ?_ ?_
        ·
         refine wpIn_region_any hmx ?_
         change wpAnyIn _ _ _ _ _ _ _ _ _ (World.drew _)
         refine cd (i:=0) (v:=p) rfl (by kernel_rfl) (by kernel_rfl) (by kernel_rfl) (by kernel_rfl) (fun w => by kernel_rfl) (fun _ => rfl) (fun _ _ _ h => h) ?_
         refine wpAnyIn_ready (rs:=[1]) (by kernel_rfl) (by simp) (AllReadyIn.cons rfl (fun K hK => ?_) AllReadyIn.nil)
         go_simp
         gi_at_call 34
         refine (callsIn_wide.2 (zbgs h3.drew)).mono ?_
         rintro e W4 ⟨rfl,h4⟩
         refine hK _ _ ?_
         clear hK K
         refine cd (i:=2) (v:=.bool false) rfl (by kernel_rfl) (by kernel_rfl) (by kernel_rfl) (by kernel_rfl) (fun w => by kernel_rfl) (fun _ => rfl) (fun _ _ _ h => h) ?_
         refine cd (i:=3) (v:=p) rfl (by kernel_rfl) (by kernel_rfl) (by kernel_rfl) (by kernel_rfl) (fun w => by kernel_rfl) (fun _ => rfl) (fun _ _ _ h => h) ?_
         refine wpAnyIn_ready (rs:=[4]) (by kernel_rfl) (by simp) (AllReadyIn.cons rfl (fun K hK => ?_) AllReadyIn.nil)
         go_simp
         gi_at_call 33
         refine (callsIn_wide.2 (zbjx h4)).mono ?_
         rintro e W5 ⟨rfl,h5⟩
         refine hK _ _ ?_
         clear hK K
         refine cd (i:=5) (v:=.bool false) rfl (by kernel_rfl) (by kernel_rfl) (by kernel_rfl) (by kernel_rfl) (fun w => by go_simp) (fun _ => rfl) (fun _ _ _ h => h) ?_
         refine cd (i:=6) (v:=.bool false) rfl (by kernel_rfl) (by kernel_rfl) (by kernel_rfl) (by kernel_rfl) (fun w => by kernel_rfl) (fun _ => rfl) (fun _ _ _ h => h) ?_
         refine cd (i:=7) (v:=.bool false) rfl (by kernel_rfl) (by kernel_rfl) (by kernel_rfl) (by kernel_rfl) (fun w => by kernel_rfl) (fun _ => rfl) (fun _ _ _ h => h) ?_
         refine cd (i:=9) (v:=.int .i64 (8 + (b.size:Int))) rfl (by kernel_rfl) (by kernel_rfl) (by kernel_rfl) (by kernel_rfl) (fun w => by kernel_rfl) (fun _ => rfl) (fun _ _ _ h => h) ?_
         refine cd (i:=10) (v:=.int .i64 (8 + (b.size:Int))) rfl (by kernel_rfl) (by kernel_rfl) (by kernel_rfl) (by kernel_rfl) (fun w => by kernel_rfl) (fun _ => rfl) (fun _ _ _ h => h) ?_
         refine cd (i:=11) (v:=.int .i64 (16 + (b.size:Int))) rfl (by kernel_rfl) (by kernel_rfl) (by kernel_rfl) (by kernel_rfl) (fun w => by go_simp <;> exact hw8) (fun _ => rfl) (fun _ _ _ h => h) ?_
         refine cd (i:=13) (v:=.string b) rfl (by kernel_rfl) (by kernel_rfl) (by kernel_rfl) (by kernel_rfl) (fun w => by kernel_rfl) (fun _ => rfl) (fun _ _ _ h => h) ?_
         have hc5:=(Boxed.through hb h5).cell
         refine wpAnyIn_ready (rs:=[8,14]) (by kernel_rfl) (by simp) (AllReadyIn.cons rfl (fun K hK => ?_) (AllReadyIn.cons rfl (fun K hK => ?_) AllReadyIn.nil))
         · go_simp
           refine hK _ _ ?_
           clear hK K
           refine cd (i:=12) (v:=.string (qy b)) rfl (by kernel_rfl) (by kernel_rfl) (by kernel_rfl) (by kernel_rfl) (fun w => by go_simp) (fun _ => rfl) (fun _ _ _ h => h) ?_
           refine wpAnyIn_ready (rs:=[14]) (by kernel_rfl) (by simp) (AllReadyIn.cons rfl (fun K hK => ?_) AllReadyIn.nil)
           go_simp
           gi_at_call 16
           refine (callsIn_wide.2 (zbrl hbs _)).mono ?_
           rintro e W6 ⟨rfl,hb6⟩
           have h6:=h5.later hb6
           refine hK _ _ ?_
           clear hK K
           refine cd (i:=15) (v:=.bool false) rfl (by kernel_rfl) (by kernel_rfl) (by kernel_rfl) (by kernel_rfl) (fun w => by go_simp) (fun _ => rfl) (fun _ _ _ h => h) ?_
           refine cd (i:=16) (v:=.bool false) rfl (by kernel_rfl) (by kernel_rfl) (by kernel_rfl) (by kernel_rfl) (fun w => by kernel_rfl) (fun _ => rfl) (fun _ _ _ h => h) ?_
           refine cd (i:=17) (v:=.bool false) rfl (by kernel_rfl) (by kernel_rfl) (by kernel_rfl) (by kernel_rfl) (fun w => by kernel_rfl) (fun _ => rfl) (fun _ _ _ h => h) ?_
           refine cd (i:=18) (v:=.func (.yield l) #[] #[]) rfl (by kernel_rfl) (by kernel_rfl) (by kernel_rfl) (by kernel_rfl) (fun w => by kernel_rfl) (fun _ => rfl) (fun _ _ _ h => h) ?_
           refine cd (i:=19) (v:=.int .i64 (8 + (b.size:Int))) rfl (by kernel_rfl) (by kernel_rfl) (by kernel_rfl) (by kernel_rfl) (fun w => by kernel_rfl) (fun _ => rfl) (fun _ _ _ h => h) ?_
           refine cd (i:=20) (v:=.int .i64 (16 + (b.size:Int))) rfl (by kernel_rfl) (by kernel_rfl) (by kernel_rfl) (by kernel_rfl) (fun w => by go_simp <;> exact hw8) (fun _ => rfl) (fun _ _ _ h => h) ?_
           refine cd (i:=21) (v:=.string b) rfl (by kernel_rfl) (by kernel_rfl) (by kernel_rfl) (by kernel_rfl) (fun w => by kernel_rfl) (fun _ => rfl) (fun _ _ _ h => h) ?_
           have hj6:=hJ _ _ _ hj (.of_below h6.below)
           obtain ⟨fn,tmps,assign,body,hy,hR⟩:=hY pre (b,16 + b.size) _ hj6 hpx
           simp only [zbpe,Int.natCast_add,Int.cast_ofNat_Int] at hy
           refine wpAnyIn_ready (rs:=[22]) (by kernel_rfl) (by simp) (AllReadyIn.cons rfl (fun K hK => ?_) AllReadyIn.nil)
           go_simp
           refine hR.mono ?_
           rintro e W7 ⟨rfl,hj7,hb7⟩
           refine hK _ _ ?_
           clear hK K
           refine cd (i:=23) (v:=.bool false) rfl (by kernel_rfl) (by kernel_rfl) (by kernel_rfl) (by kernel_rfl) (fun w => by kernel_rfl) (fun _ => rfl) (fun _ _ _ h => h) ?_
           refine cd (i:=24) (v:=.bool false) rfl (by kernel_rfl) (by kernel_rfl) (by kernel_rfl) (by kernel_rfl) (fun w => by kernel_rfl) (fun _ => rfl) (fun _ _ _ h => h) ?_
           refine wpAnyIn_done (by kernel_rfl) ⟨by kernel_rfl,hj7,hb7.trans (Boxed.through hb h6)⟩ _
         · go_simp
           gi_at_call 16
           refine (callsIn_wide.2 (zbrl hbs _)).mono ?_
           rintro e W6 ⟨rfl,hb6⟩
           have h6:=h5.later hb6
           refine hK _ _ ?_
           clear hK K
           have hc6:=(Boxed.through hb h6).cell
           refine wpAnyIn_ready (rs:=[8]) (by kernel_rfl) (by simp) (AllReadyIn.cons rfl (fun K hK => ?_) AllReadyIn.nil)
           go_simp
           refine hK _ _ ?_
           clear hK K
           refine cd (i:=12) (v:=.string (qy b)) rfl (by kernel_rfl) (by kernel_rfl) (by kernel_rfl) (by kernel_rfl) (fun w => by go_simp) (fun _ => rfl) (fun _ _ _ h => h) ?_
           refine cd (i:=15) (v:=.bool false) rfl (by kernel_rfl) (by kernel_rfl) (by kernel_rfl) (by kernel_rfl) (fun w => by go_simp) (fun _ => rfl) (fun _ _ _ h => h) ?_
           refine cd (i:=16) (v:=.bool false) rfl (by kernel_rfl) (by kernel_rfl) (by kernel_rfl) (by kernel_rfl) (fun w => by kernel_rfl) (fun _ => rfl) (fun _ _ _ h => h) ?_
           refine cd (i:=17) (v:=.bool false) rfl (by kernel_rfl) (by kernel_rfl) (by kernel_rfl) (by kernel_rfl) (fun w => by kernel_rfl) (fun _ => rfl) (fun _ _ _ h => h) ?_
           refine cd (i:=18) (v:=.func (.yield l) #[] #[]) rfl (by kernel_rfl) (by kernel_rfl) (by kernel_rfl) (by kernel_rfl) (fun w => by kernel_rfl) (fun _ => rfl) (fun _ _ _ h => h) ?_
           refine cd (i:=19) (v:=.int .i64 (8 + (b.size:Int))) rfl (by kernel_rfl) (by kernel_rfl) (by kernel_rfl) (by kernel_rfl) (fun w => by kernel_rfl) (fun _ => rfl) (fun _ _ _ h => h) ?_
           refine cd (i:=20) (v:=.int .i64 (16 + (b.size:Int))) rfl (by kernel_rfl) (by kernel_rfl) (by kernel_rfl) (by kernel_rfl) (fun w => by go_simp <;> exact hw8) (fun _ => rfl) (fun _ _ _ h => h) ?_
           refine cd (i:=21) (v:=.string b) rfl (by kernel_rfl) (by kernel_rfl) (by kernel_rfl) (by kernel_rfl) (fun w => by kernel_rfl) (fun _ => rfl) (fun _ _ _ h => h) ?_
           have hj6:=hJ _ _ _ hj (.of_below h6.below)
           obtain ⟨fn,tmps,assign,body,hy,hR⟩:=hY pre (b,16 + b.size) _ hj6 hpx
           simp only [zbpe,Int.natCast_add,Int.cast_ofNat_Int] at hy
           refine wpAnyIn_ready (rs:=[22]) (by kernel_rfl) (by simp) (AllReadyIn.cons rfl (fun K hK => ?_) AllReadyIn.nil)
           go_simp
           refine hR.mono ?_
           rintro e W7 ⟨rfl,hj7,hb7⟩
           refine hK _ _ ?_
           clear hK K
           refine cd (i:=23) (v:=.bool false) rfl (by kernel_rfl) (by kernel_rfl) (by kernel_rfl) (by kernel_rfl) (fun w => by kernel_rfl) (fun _ => rfl) (fun _ _ _ h => h) ?_
           refine cd (i:=24) (v:=.bool false) rfl (by kernel_rfl) (by kernel_rfl) (by kernel_rfl) (by kernel_rfl) (fun w => by kernel_rfl) (fun _ => rfl) (fun _ _ _ h => h) ?_
           refine wpAnyIn_done (by kernel_rfl) ⟨by kernel_rfl,hj7,hb7.trans (Boxed.through hb h6)⟩ _
        rintro e a W4 h4
        cases e with
        | normal =>
         obtain ⟨rfl,h4,hb4⟩:=h4
         have hc4:=hb4.cell
         have hf4:=hb4.frozen
         gi_wp2
         have hx2:=HX.out
         have hsz:=HSZ.out
         have hr:(s'.extract (16 + b.size) s'.size).size = s'.size - (16 + b.size):=by rw [ByteArray.size_extract]; omega
         refine ⟨⟨_,k,_,hx2,by omega,by omega,hb4.set _,hJ _ _ _ h4 (.set B _ _)⟩,?_⟩
         have e1:=(hb4.set (.string (s'.extract (16 + b.size) s'.size))).cell
         unfold zbh0
         rw [e1,hc]
         simp only [hr]
         omega
        | _ => exact h4.elim
      · have hsz:=HSZ.out
        have hle:16 + (b.size:Int) ≤ s'.size:=by omega
        have hl0:(0:Int) ≤ 8 + (b.size:Int):=by omega
        have hl1:(8:Int) + (b.size:Int) ≤ 16 + (b.size:Int):=by omega
        have hnl:¬ (t.size:Int) < 8:=by omega
        have hl2:(8:Int) ≤ t.size:=by omega
        clear hsz
        have hst:ia s' = none:=by unfold ia; rw [hw]; exact if_neg fun q => heq q.2
        have hneq:¬ (s'.extract (8 + b.size) (16 + b.size)).toList = (qy b).toList:=fun q => heq (zbn1 q)
        refine wpIn_mono (Q:=Exit.then (fun a w => a = { tmps:=#[.func (.yield l) #[] #[],.pointer (some ⟨B,0,none⟩),undef,p,.string b,.int .i64 (8 + (b.size:Int)),.string s',p,p,.string b,.string s',.int .i64 (s'.size:Nat),p,.int .i64 (t.size:Nat),.int .i64 (8 + (b.size:Int)),p,.bool false,.bool false,p,.int .i64 (t.size:Nat),.bool false,.bool false,.bool false,.string s',.int .i64 (8 + (b.size:Int)),.int .i64 (8 + (b.size:Int)),.int .i64 (16 + (b.size:Int)),.string (s'.extract (8 + b.size) (16 + b.size)),.string b,.string (qy b),.bool true,.bool true,.bool true,undef,undef,undef,undef,undef,undef,.bool true,u40,u41,u42,u43],defers:=[] } ∧ RdS wr p (rτ ⟨t,false⟩) w) fun _ _ _ => False) ?_ ?_
        ·
         refine wpIn_region_any hmx ?_
         change wpAnyIn _ _ _ _ _ _ _ _ _ (World.drew _)
         refine cd (i:=0) (v:=p) rfl (by kernel_rfl) (by kernel_rfl) (by kernel_rfl) (by kernel_rfl) (fun w => by kernel_rfl) (fun _ => rfl) (fun _ _ _ h => h) ?_
         refine wpAnyIn_ready (rs:=[1]) (by kernel_rfl) (by simp) (AllReadyIn.cons rfl (fun K hK => ?_) AllReadyIn.nil)
         go_simp
         gi_at_call 34
         refine (callsIn_wide.2 (zbgs h3.drew)).mono ?_
         rintro e W4 ⟨rfl,h4⟩
         refine hK _ _ ?_
         clear hK K
         refine cd (i:=2) (v:=.bool false) rfl (by kernel_rfl) (by kernel_rfl) (by kernel_rfl) (by kernel_rfl) (fun w => by kernel_rfl) (fun _ => rfl) (fun _ _ _ h => h) ?_
         refine cd (i:=3) (v:=p) rfl (by kernel_rfl) (by kernel_rfl) (by kernel_rfl) (by kernel_rfl) (fun w => by kernel_rfl) (fun _ => rfl) (fun _ _ _ h => h) ?_
         refine wpAnyIn_ready (rs:=[4]) (by kernel_rfl) (by simp) (AllReadyIn.cons rfl (fun K hK => ?_) AllReadyIn.nil)
         go_simp
         gi_at_call 33
         refine (callsIn_wide.2 (zbjx h4)).mono ?_
         rintro e W5 ⟨rfl,h5⟩
         refine hK _ _ ?_
         clear hK K
         refine cd (i:=5) (v:=.bool false) rfl (by kernel_rfl) (by kernel_rfl) (by kernel_rfl) (by kernel_rfl) (fun w => by go_simp) (fun _ => rfl) (fun _ _ _ h => h) ?_
         refine cd (i:=6) (v:=.bool false) rfl (by kernel_rfl) (by kernel_rfl) (by kernel_rfl) (by kernel_rfl) (fun w => by kernel_rfl) (fun _ => rfl) (fun _ _ _ h => h) ?_
         refine cd (i:=7) (v:=.bool false) rfl (by kernel_rfl) (by kernel_rfl) (by kernel_rfl) (by kernel_rfl) (fun w => by kernel_rfl) (fun _ => rfl) (fun _ _ _ h => h) ?_
         refine cd (i:=9) (v:=.int .i64 (8 + (b.size:Int))) rfl (by kernel_rfl) (by kernel_rfl) (by kernel_rfl) (by kernel_rfl) (fun w => by kernel_rfl) (fun _ => rfl) (fun _ _ _ h => h) ?_
         refine cd (i:=10) (v:=.int .i64 (8 + (b.size:Int))) rfl (by kernel_rfl) (by kernel_rfl) (by kernel_rfl) (by kernel_rfl) (fun w => by kernel_rfl) (fun _ => rfl) (fun _ _ _ h => h) ?_
         refine cd (i:=11) (v:=.int .i64 (16 + (b.size:Int))) rfl (by kernel_rfl) (by kernel_rfl) (by kernel_rfl) (by kernel_rfl) (fun w => by go_simp <;> exact hw8) (fun _ => rfl) (fun _ _ _ h => h) ?_
         refine cd (i:=13) (v:=.string b) rfl (by kernel_rfl) (by kernel_rfl) (by kernel_rfl) (by kernel_rfl) (fun w => by kernel_rfl) (fun _ => rfl) (fun _ _ _ h => h) ?_
         have hc5:=(Boxed.through hb h5).cell
         refine wpAnyIn_ready (rs:=[8,14]) (by kernel_rfl) (by simp) (AllReadyIn.cons rfl (fun K hK => ?_) (AllReadyIn.cons rfl (fun K hK => ?_) AllReadyIn.nil))
         · go_simp
           refine hK _ _ ?_
           clear hK K
           refine cd (i:=12) (v:=.string (s'.extract (8 + b.size) (16 + b.size))) rfl (by kernel_rfl) (by kernel_rfl) (by kernel_rfl) (by kernel_rfl) (fun w => by go_simp) (fun _ => rfl) (fun _ _ _ h => h) ?_
           refine wpAnyIn_ready (rs:=[14]) (by kernel_rfl) (by simp) (AllReadyIn.cons rfl (fun K hK => ?_) AllReadyIn.nil)
           go_simp
           gi_at_call 16
           refine (callsIn_wide.2 (zbrl hbs _)).mono ?_
           rintro e W6 ⟨rfl,hb6⟩
           have h6:=h5.later hb6
           refine hK _ _ ?_
           clear hK K
           refine cd (i:=15) (v:=.bool true) rfl (by kernel_rfl) (by kernel_rfl) (by kernel_rfl) (by kernel_rfl) (fun w => by go_simp <;> exact hneq) (fun _ => rfl) (fun _ _ _ h => h) ?_
           refine cd (i:=16) (v:=.bool true) rfl (by kernel_rfl) (by kernel_rfl) (by kernel_rfl) (by kernel_rfl) (fun w => by kernel_rfl) (fun _ => rfl) (fun _ _ _ h => h) ?_
           refine cd (i:=17) (v:=.bool true) rfl (by kernel_rfl) (by kernel_rfl) (by kernel_rfl) (by kernel_rfl) (fun w => by kernel_rfl) (fun _ => rfl) (fun _ _ _ h => h) ?_
           refine kw (i:=18) rfl (by kernel_rfl) (by kernel_rfl) (by kernel_rfl) (by kernel_rfl) (fun _ => rfl) (fun _ _ _ h => h) ?_
           refine kw (i:=19) rfl (by kernel_rfl) (by kernel_rfl) (by kernel_rfl) (by kernel_rfl) (fun _ => rfl) (fun _ _ _ h => h) ?_
           refine kw (i:=20) rfl (by kernel_rfl) (by kernel_rfl) (by kernel_rfl) (by kernel_rfl) (fun _ => rfl) (fun _ _ _ h => h) ?_
           refine kw (i:=21) rfl (by kernel_rfl) (by kernel_rfl) (by kernel_rfl) (by kernel_rfl) (fun _ => rfl) (fun _ _ _ h => h) ?_
           refine ut (i:=22) (by kernel_rfl) rfl (by kernel_rfl) ?_
           refine kw (i:=23) rfl (by kernel_rfl) (by kernel_rfl) (by kernel_rfl) (by kernel_rfl) (fun _ => rfl) (fun _ _ _ h => h) ?_
           refine cd (i:=24) (v:=.bool true) rfl (by kernel_rfl) (by kernel_rfl) (by kernel_rfl) (by kernel_rfl) (fun w => by kernel_rfl) (fun _ => rfl) (fun _ _ _ h => h) ?_
           refine wpAnyIn_done (by kernel_rfl) ⟨by kernel_rfl,h6⟩ _
         · go_simp
           gi_at_call 16
           refine (callsIn_wide.2 (zbrl hbs _)).mono ?_
           rintro e W6 ⟨rfl,hb6⟩
           have h6:=h5.later hb6
           refine hK _ _ ?_
           clear hK K
           have hc6:=(Boxed.through hb h6).cell
           refine wpAnyIn_ready (rs:=[8]) (by kernel_rfl) (by simp) (AllReadyIn.cons rfl (fun K hK => ?_) AllReadyIn.nil)
           go_simp
           refine hK _ _ ?_
           clear hK K
           refine cd (i:=12) (v:=.string (s'.extract (8 + b.size) (16 + b.size))) rfl (by kernel_rfl) (by kernel_rfl) (by kernel_rfl) (by kernel_rfl) (fun w => by go_simp) (fun _ => rfl) (fun _ _ _ h => h) ?_
           refine cd (i:=15) (v:=.bool true) rfl (by kernel_rfl) (by kernel_rfl) (by kernel_rfl) (by kernel_rfl) (fun w => by go_simp <;> exact hneq) (fun _ => rfl) (fun _ _ _ h => h) ?_
           refine cd (i:=16) (v:=.bool true) rfl (by kernel_rfl) (by kernel_rfl) (by kernel_rfl) (by kernel_rfl) (fun w => by kernel_rfl) (fun _ => rfl) (fun _ _ _ h => h) ?_
           refine cd (i:=17) (v:=.bool true) rfl (by kernel_rfl) (by kernel_rfl) (by kernel_rfl) (by kernel_rfl) (fun w => by kernel_rfl) (fun _ => rfl) (fun _ _ _ h => h) ?_
           refine kw (i:=18) rfl (by kernel_rfl) (by kernel_rfl) (by kernel_rfl) (by kernel_rfl) (fun _ => rfl) (fun _ _ _ h => h) ?_
           refine kw (i:=19) rfl (by kernel_rfl) (by kernel_rfl) (by kernel_rfl) (by kernel_rfl) (fun _ => rfl) (fun _ _ _ h => h) ?_
           refine kw (i:=20) rfl (by kernel_rfl) (by kernel_rfl) (by kernel_rfl) (by kernel_rfl) (fun _ => rfl) (fun _ _ _ h => h) ?_
           refine kw (i:=21) rfl (by kernel_rfl) (by kernel_rfl) (by kernel_rfl) (by kernel_rfl) (fun _ => rfl) (fun _ _ _ h => h) ?_
           refine ut (i:=22) (by kernel_rfl) rfl (by kernel_rfl) ?_
           refine kw (i:=23) rfl (by kernel_rfl) (by kernel_rfl) (by kernel_rfl) (by kernel_rfl) (fun _ => rfl) (fun _ _ _ h => h) ?_
           refine cd (i:=24) (v:=.bool true) rfl (by kernel_rfl) (by kernel_rfl) (by kernel_rfl) (by kernel_rfl) (fun w => by kernel_rfl) (fun _ => rfl) (fun _ _ _ h => h) ?_
           refine wpAnyIn_done (by kernel_rfl) ⟨by kernel_rfl,h6⟩ _
        rintro e a W4 h4
        cases e with
        | normal =>
         obtain ⟨rfl,h4⟩:=h4
         gi_wp2
         refine bodyPost_ret (results_none rfl _ _ _) rfl ?_
         exact ⟨⟨_,rfl⟩,hend hst ▸ hJ _ _ _ hj (.of_below h4.below)⟩
        | _ => exact h4.elim
    · have hst:ia s' = none:=by unfold ia; rw [hw]; exact if_neg fun q => h8 q.1
      have h8i:(t.size:Int) < 8:=by omega
      refine wpIn_mono (Q:=Exit.then (fun a w => a = { tmps:=#[.func (.yield l) #[] #[],.pointer (some ⟨B,0,none⟩),undef,p,.string b,.int .i64 (8 + (b.size:Int)),.string s',p,p,.string b,.string s',.int .i64 (s'.size:Nat),p,.int .i64 (t.size:Nat),.int .i64 (8 + (b.size:Int)),p,.bool false,.bool false,p,.int .i64 (t.size:Nat),.bool true,.bool true,.bool true,undef,undef,undef,undef,undef,undef,undef,undef,.bool true,.bool true,undef,undef,undef,undef,undef,undef,.bool true,u40,u41,u42,u43],defers:=[] } ∧ RdS wr p (rτ ⟨t,false⟩) w) fun _ _ _ => False) ?_ ?_
      ·
       refine wpIn_region_any hmx ?_
       change wpAnyIn _ _ _ _ _ _ _ _ _ (World.drew _)
       refine cd (i:=0) (v:=p) rfl (by kernel_rfl) (by kernel_rfl) (by kernel_rfl) (by kernel_rfl) (fun w => by kernel_rfl) (fun _ => rfl) (fun _ _ _ h => h) ?_
       refine wpAnyIn_ready (rs:=[1]) (by kernel_rfl) (by simp) (AllReadyIn.cons rfl (fun K hK => ?_) AllReadyIn.nil)
       go_simp
       gi_at_call 34
       refine (callsIn_wide.2 (zbgs h3.drew)).mono ?_
       rintro e W4 ⟨rfl,h4⟩
       refine hK _ _ ?_
       clear hK K
       refine cd (i:=2) (v:=.bool false) rfl (by kernel_rfl) (by kernel_rfl) (by kernel_rfl) (by kernel_rfl) (fun w => by kernel_rfl) (fun _ => rfl) (fun _ _ _ h => h) ?_
       refine cd (i:=3) (v:=p) rfl (by kernel_rfl) (by kernel_rfl) (by kernel_rfl) (by kernel_rfl) (fun w => by kernel_rfl) (fun _ => rfl) (fun _ _ _ h => h) ?_
       refine wpAnyIn_ready (rs:=[4]) (by kernel_rfl) (by simp) (AllReadyIn.cons rfl (fun K hK => ?_) AllReadyIn.nil)
       go_simp
       gi_at_call 33
       refine (callsIn_wide.2 (zbjx h4)).mono ?_
       rintro e W5 ⟨rfl,h5⟩
       refine hK _ _ ?_
       clear hK K
       refine cd (i:=5) (v:=.bool true) rfl (by kernel_rfl) (by kernel_rfl) (by kernel_rfl) (by kernel_rfl) (fun w => by go_simp) (fun _ => rfl) (fun _ _ _ h => h) ?_
       refine cd (i:=6) (v:=.bool true) rfl (by kernel_rfl) (by kernel_rfl) (by kernel_rfl) (by kernel_rfl) (fun w => by kernel_rfl) (fun _ => rfl) (fun _ _ _ h => h) ?_
       refine cd (i:=7) (v:=.bool true) rfl (by kernel_rfl) (by kernel_rfl) (by kernel_rfl) (by kernel_rfl) (fun w => by kernel_rfl) (fun _ => rfl) (fun _ _ _ h => h) ?_
       refine kw (i:=8) rfl (by kernel_rfl) (by kernel_rfl) (by kernel_rfl) (by kernel_rfl) (fun _ => rfl) (fun _ _ _ h => h) ?_
       refine kw (i:=9) rfl (by kernel_rfl) (by kernel_rfl) (by kernel_rfl) (by kernel_rfl) (fun _ => rfl) (fun _ _ _ h => h) ?_
       refine kw (i:=10) rfl (by kernel_rfl) (by kernel_rfl) (by kernel_rfl) (by kernel_rfl) (fun _ => rfl) (fun _ _ _ h => h) ?_
       refine kw (i:=11) rfl (by kernel_rfl) (by kernel_rfl) (by kernel_rfl) (by kernel_rfl) (fun _ => rfl) (fun _ _ _ h => h) ?_
       refine kw (i:=12) rfl (by kernel_rfl) (by kernel_rfl) (by kernel_rfl) (by kernel_rfl) (fun _ => rfl) (fun _ _ _ h => h) ?_
       refine kw (i:=13) rfl (by kernel_rfl) (by kernel_rfl) (by kernel_rfl) (by kernel_rfl) (fun _ => rfl) (fun _ _ _ h => h) ?_
       refine ut (i:=14) (by kernel_rfl) rfl (by kernel_rfl) ?_
       refine kw (i:=15) rfl (by kernel_rfl) (by kernel_rfl) (by kernel_rfl) (by kernel_rfl) (fun _ => rfl) (fun _ _ _ h => h) ?_
       refine cd (i:=16) (v:=.bool true) rfl (by kernel_rfl) (by kernel_rfl) (by kernel_rfl) (by kernel_rfl) (fun w => by kernel_rfl) (fun _ => rfl) (fun _ _ _ h => h) ?_
       refine cd (i:=17) (v:=.bool true) rfl (by kernel_rfl) (by kernel_rfl) (by kernel_rfl) (by kernel_rfl) (fun w => by kernel_rfl) (fun _ => rfl) (fun _ _ _ h => h) ?_
       refine kw (i:=18) rfl (by kernel_rfl) (by kernel_rfl) (by kernel_rfl) (by kernel_rfl) (fun _ => rfl) (fun _ _ _ h => h) ?_
       refine kw (i:=19) rfl (by kernel_rfl) (by kernel_rfl) (by kernel_rfl) (by kernel_rfl) (fun _ => rfl) (fun _ _ _ h => h) ?_
       refine kw (i:=20) rfl (by kernel_rfl) (by kernel_rfl) (by kernel_rfl) (by kernel_rfl) (fun _ => rfl) (fun _ _ _ h => h) ?_
       refine kw (i:=21) rfl (by kernel_rfl) (by kernel_rfl) (by kernel_rfl) (by kernel_rfl) (fun _ => rfl) (fun _ _ _ h => h) ?_
       refine ut (i:=22) (by kernel_rfl) rfl (by kernel_rfl) ?_
       refine kw (i:=23) rfl (by kernel_rfl) (by kernel_rfl) (by kernel_rfl) (by kernel_rfl) (fun _ => rfl) (fun _ _ _ h => h) ?_
       refine cd (i:=24) (v:=.bool true) rfl (by kernel_rfl) (by kernel_rfl) (by kernel_rfl) (by kernel_rfl) (fun w => by kernel_rfl) (fun _ => rfl) (fun _ _ _ h => h) ?_
       refine wpAnyIn_done (by kernel_rfl) ⟨by kernel_rfl,h5⟩ _
      rintro e a W4 h4
      cases e with
      | normal =>
       obtain ⟨rfl,h4⟩:=h4
       gi_wp2
       refine bodyPost_ret (results_none rfl _ _ _) rfl ?_
       exact ⟨⟨_,rfl⟩,hend hst ▸ hJ _ _ _ hj (.of_below h4.below)⟩
      | _ => exact h4.elim
   | _ => exact h3.elim
end Go.Proofs.Ytgkkienmocpnbaa.Wl
namespace Go.Proofs.Ytgkkienmocpnbaa.Wl
open Go Go.RowKit Sh Ic
attribute [local go_sem] Oper.semAt_some za80 za81
theorem zbf3 (s:ByteArray) (w:World) (n:Nat):CallsIn Fence.wide n Try.prog 19 #[.string s] w fun e w' => e = .returned (.func (.func 30) #[] #[.pointer (some ⟨w.heap.size,0,none⟩)]) ∧ w' = w.alloc (.cells #[.string s] 9):=by
 refine callsIn_of_wp Try.func19 rfl trivial ?_ rfl
 simp only [Try.ntmps19,List.size_toArray,List.length_cons,List.length_nil,Nat.reduceAdd,Nat.reduceSub,Array.replicate_succ,Array.replicate_zero,List.push_toArray,List.append_toArray,List.nil_append,List.cons_append]
 gi_wp2
 go_ret
 exact ⟨rfl,rfl⟩
theorem zbvk:(Try.prog.info? 9).map (fun i => (i.zero,i.size,i.bytes)) = some (some (.string .empty),1,16):=by kernel_rfl
def df (xs:List (ByteArray × Nat)):Nat:=(xs.map Prod.snd).sum
theorem zbzc (xs:List (ByteArray × Nat)) (x:ByteArray × Nat):df (xs ++ [x]) = df xs + x.2:=by simp [df]
theorem zbd4 {W:World} {B D:Nat} {t:TypeId} {v:Value} (h:Boxed W B t v) (hD:W.heap[D]? = some (.deferred (some []))):Boxed (W.putObj D (.deferred none)) B t v :=
 h.kept (grownBy_putObj' W D _) fun e => by
  injection e with e
  subst e
  rw [show W.heap[B]? = _ from h] at hD
  cases hD
theorem zbzt {W:World} {B D:Nat} {t:TypeId} {v:Value} (h:Boxed W B t v) (hD:W.drew.heap[D]? = some (.deferred (some []))):Boxed (W.drew.putObj D (.deferred none)) B t v:=zbd4 (W:=W.drew) h hD
theorem zcff {W:World} {base size k D:Nat} {e:TypeId} {v:Value} {xs:List Value} (h:W.ownsRow base e size v k xs) (hD:W.drew.heap[D]? = some (.deferred (some []))):(W.drew.putObj D (.deferred none)).ownsRow base e size v k xs:=ownsRow_putObj (W:=W.drew) h (.deferred none) hD rfl
def Inv (w:World) (pre:List (ByteArray × Nat)) (W:World):Prop :=
 (∃ v,Boxed W w.heap.size 22 v ∧ W.ownsRow w.heap.size 9 1 v pre.length (pre.map fun x => .string x.1) ∧ v.ownBlock ≠ some (w.heap.size + 2)) ∧ Boxed W (w.heap.size + 1) 3 (.int .i64 (df pre:Nat)) ∧ Below w.heap.size w W ∧ w.heap.size + 3 ≤ W.heap.size
theorem zbk1 {n₀ B:Nat} {W W':World} {base size k:Nat} {e:TypeId} {v:Value} {xs:List Value} (h:W.ownsRow base e size v k xs) (hb:v.ownBlock ≠ some B) (ha:Asc n₀ B W W'):W'.ownsRow base e size v k xs:=by
 obtain ⟨h1,h2⟩:=h
 refine ⟨h1,?_⟩
 rcases h2 with h2 | ⟨g,cap,cur,rfl,h3,h4,h5⟩
 · exact .inl h2
 · exact .inr ⟨g,cap,cur,rfl,h3,ha.cells g _ h4 rfl (fun q => hb (by rw [← q]; rfl)),h5⟩
theorem Inv.sta (w:World):Sta w.heap.size (w.heap.size + 2) (Inv w):=by
 rintro ys W W' ⟨⟨v,h1,h2,h3⟩,h4,h5,h6⟩ ha
 exact ⟨⟨v,ha.cells _ _ h1 rfl (by omega),zbk1 h2 h3 ha,h3⟩,ha.cells _ _ h4 rfl (by omega),h5.trans ha.below,Nat.le_trans h6 ha.below.size⟩
theorem recW_sum:∀ (k:Nat) (s:ByteArray),df (vu k s) ≤ s.size ∧ (vu k s).length ≤ s.size
 | 0,s => ⟨Nat.zero_le _,Nat.zero_le _⟩
 | k + 1,s => by
  unfold vu
  cases h:ia s with
  | none => exact ⟨Nat.zero_le _,Nat.zero_le _⟩
  | some x =>
   have hx:x.2.1 = 16 + x.1.size ∧ x.2.2.size = s.size - (16 + x.1.size) ∧ 16 + x.1.size ≤ s.size:=by
    unfold ia at h
    cases ht:xo s with
    | none => rw [ht] at h; cases h
    | some y =>
     rw [ht] at h
     obtain ⟨b,t⟩:=y
     obtain ⟨_,hsz,_,_,_⟩:=text_some ht
     simp only [Option.bind_some] at h
     split at h
     · rename_i hc
       simp only [Option.some.injEq] at h
       subst h
       have:=hc.1
       exact ⟨rfl,by simp only; rw [ByteArray.size_extract]; omega,by simp only; omega⟩
     · cases h
   obtain ⟨h1,h2⟩:=recW_sum k x.2.2
   obtain ⟨e1,e2,e3⟩:=hx
   have:df ((x.1,x.2.1) :: vu k x.2.2) = x.2.1 + df (vu k x.2.2):=by simp [df]
   exact ⟨by simp only; omega,by simp only [List.length_cons]; omega⟩
theorem zbk6 {pre xs:List (ByteArray × Nat)} (h:pre <+: xs):df pre ≤ df xs:=by
 obtain ⟨t,rfl⟩:=h
 simp [df]
set_option maxRecDepth 100000 in
set_option maxHeartbeats 4000000 in
theorem scanW (s:ByteArray) (hs:s.size ≤ 1000000000) (w:World):Calls Try.prog 9 #[.string s] w fun e W' => ∃ v,e = .returned (.tuple #[v,.int .i64 (zbju s:Nat)]) ∧ Below w.heap.size w W' ∧ W'.ownsRow w.heap.size 9 1 v (za8w s).length ((za8w s).map Value.string):=by
 refine (callsIn_wide (n:=5)).1 ?_
 obtain ⟨i0,hi,hz0,hz1,hz2⟩:=info_parts zbvk
 have hu:Try.prog.underlying 22 = some (.slice 9):=by kernel_rfl
 have hmx:Try.prog.follows .mixedOrders = true:=by kernel_rfl
 refine callsIn_of_wp_marks Try.func9 rfl trivial ?_ rfl
 simp only [Try.ntmps9,List.size_toArray,List.length_cons,List.length_nil,Nat.reduceAdd,Nat.reduceSub,Array.replicate_succ,Array.replicate_zero,List.push_toArray,List.append_toArray,List.nil_append,List.cons_append]
 gi_wp2_with (gi_at_call 19; refine (zbf3 s _ _).mono ?_; rintro e w' ⟨rfl,rfl⟩)
 have bO:=Boxed.new w 22 (.slice none 0 0)
 have bG:=Boxed.new (w.alloc (.cells #[.slice none 0 0] 22)) 3 (.int .i64 0)
 have bS:=Boxed.new ((w.alloc (.cells #[.slice none 0 0] 22)).alloc (.cells #[.int .i64 0] 3)) 9 (.string s)
 rw [World.size_alloc] at bG
 rw [World.size_alloc,World.size_alloc] at bS
 have hB0:Below w.heap.size w (((w.alloc (.cells #[.slice none 0 0] 22)).alloc (.cells #[.int .i64 0] 3)).alloc (.cells #[.string s] 9)):=(((Below.refl _ w).alloc (Nat.le_refl _) _).alloc (by simp) _).alloc (by simp; omega) _
 refine zci0 (n₀:=w.heap.size) (B:=w.heap.size + 2) (T:=9) (s:=.string s) (encs:=zbpe) (xs:=vu s.size s) rfl (by omega) (gf:=30) rfl trivial (enters_of Try.func30 (by kernel_rfl) rfl)
  (fun l J W hB hJ hY h0 => zax0 _ (by omega) (w.heap.size + 2) l s hs J W hB hJ hY h0) bS (by omega) (fun _ => rfl) (Inv w) (Inv.sta w)
  ⟨⟨_,(bO.alloc _).alloc _,World.ownsRow_nil _ _ _ _,by simp [Value.ownBlock]⟩,bG.alloc _,hB0,by simp⟩
  (fun x => { tmps:=#[.string s,undef,.pointer (some ⟨w.heap.size,0,none⟩),.pointer (some ⟨w.heap.size + 1,0,none⟩),.int .i64 (x.2:Nat),.string x.1,.string s,.func (.func 30) #[] #[.pointer (some ⟨w.heap.size + 1 + 1,0,none⟩)],.int .i64 (x.2:Nat),.string x.1,undef,undef,undef,undef,undef,undef,undef,undef,undef],defers:=[] }) ?assign ?body ?done
 case assign =>
  intro l x W K hK
  dsimp only [zbpe]
  gi_wp2
  exact hK
 case body =>
  rintro l pre x W ⟨⟨v,hv,hrow,hne⟩,hg,hB,hsz⟩ hpx
  have hlen:(pre ++ [x]).length ≤ s.size:=Nat.le_trans (hpx.length_le) (recW_sum _ _).2
  rw [List.length_append] at hlen
  have hlen:pre.length + 1 ≤ s.size:=hlen
  have hsum:df (pre ++ [x]) ≤ s.size:=Nat.le_trans (zbk6 hpx) (recW_sum _ _).1
  rw [zbzc] at hsum
  have hadd:IntKind.i64.wrap (((df pre:Nat):Int) + ((x.2:Nat):Int)) = ((df pre:Nat):Int) + ((x.2:Nat):Int):=w64 (by omega) (by omega)
  have hc:=hv.cell
  have hgl:=hg.lt
  have hmx1:pre.length + 1 ≤ maxLen:=by unfold maxLen; omega
  have hmx2:w.heap.size ≤ (W.alloc (.cells #[.string x.1] 9)).heap.size:=by have:=hB.size; simp; omega
  gi_wp2_with (gi_at_builtin; refine wpListIn_append_own_at _ rfl _ _ 22 rfl w.heap.size 9 i0 (.string .empty) 1 16 hu hi hz0 hz1 hz2 rfl (by decide) _ _ _ rfl (hrow.alloc _) ⟨W.heap.size,0,none⟩ 1 1 [.string x.1] rfl rfl (cell_one_new _ _ _) (by simp [Value.oneCell']) (by exact hmx1) (by omega) (by exact hmx2) ?_; intro v' w1 hown' hgrow _ hat; obtain ⟨g',cap',rfl⟩:=ownsRow_succ hown'; obtain ⟨hv1,hv2,hr2,hk2,hb2⟩:=hv.appended (by decide) hrow hB.size (Nat.le_refl _) hown' hgrow; have hc1:=hv1.cell; have hf1:=hv1.frozen; have hg1:Boxed w1 (w.heap.size + 1) 3 (.int .i64 (df pre:Nat)):=(hg.alloc (.cells #[.string x.1] 9)).kept hgrow (hg.not_row (e:=9) (by decide) hrow); have hg2:=hg1.other (B':=w.heap.size) (Nat.succ_ne_self _) (.slice (some ⟨g',0,none⟩) (pre.length + 1) cap'); have hgc:=hg2.cell; have hgf:=hg2.frozen)
  refine ⟨hk2.trans (.setCell _ _ _),?_,⟨_,hv2.other (Nat.ne_of_lt (Nat.lt_succ_self _)) _,?_,?_⟩,?_,hB.trans (hb2.setCell (p:=⟨w.heap.size + 1,0,none⟩) (Nat.le_succ _) _),?_⟩
  · have e1:w.heap.size + 2 < W.heap.size:=by omega
    refine (Below.heap_setCell _ _ _ _ (by simp)).trans ((Below.heap_setCell _ _ _ _ (by simp)).trans ((hgrow.block _ (by simp; omega) (fun q => hne q.symm)).trans (Below.heap_alloc _ _ _ e1)))
  · have:=hr2.kept (grownBy_setCell' _ (w.heap.size + 1) (.int .i64 (((df pre:Nat):Int) + ((x.2:Nat):Int)))) (.inr (hg2.not_row (e:=9) (by decide) hr2).symm)
    simpa using this
  · rcases hat with hat | hat
    · rw [hat]; exact hne
    · rw [hat]
      intro q
      injection q with q
      simp at q
      omega
  · have:=hg2.set (.int .i64 (((df pre:Nat):Int) + ((x.2:Nat):Int)))
    rw [zbzc,Int.natCast_add]
    exact this
  · have:=hgrow.size
    simp only [World.size_alloc] at this
    show _ ≤ (World.setCell _ _ _).heap.size
    have e1:=(KeepsWalks.setCell (w1.setCell ⟨w.heap.size,0,none⟩ (.slice (some ⟨g',0,none⟩) (pre.length + 1) cap')) ⟨w.heap.size + 1,0,none⟩ (.int .i64 (((df pre:Nat):Int) + ((x.2:Nat):Int)))).size
    have e2:=(KeepsWalks.setCell w1 ⟨w.heap.size,0,none⟩ (.slice (some ⟨g',0,none⟩) (pre.length + 1) cap')).size
    omega
 case done =>
  rintro D W hD ⟨⟨v,hv,hrow,hne⟩,hg,hB,hsz⟩ hK
  have hc:=hv.cell
  have hf:=hv.frozen
  have hgc:=hg.cell
  have hgf:=hg.frozen
  have hg3:∀ u,Boxed (W.drew.setCell ⟨w.heap.size,0,none⟩ u) (w.heap.size + 1) 3 (.int .i64 (df (vu s.size s):Nat)):=fun u => Boxed.other (W:=W.drew) hg (Nat.succ_ne_self _) u
  have fin:∃ g cap,v = .slice g (vu s.size s).length cap:=by
   rcases hrow.2 with ⟨h1,h2⟩ | ⟨g,cap,_,h1,_⟩
   · exact ⟨none,0,by rw [h1,h2]⟩
   · exact ⟨_,_,h1⟩
  obtain ⟨g,cap,rfl⟩:=fin
  have hg4:=(hg3 (.slice g (vu s.size s).length cap)).cell
  have hg5:=(hg3 (.slice g (vu s.size s).length cap)).frozen
  have hK':((W.setCell ⟨w.heap.size,0,none⟩ (.slice g (vu s.size s).length cap)).setCell ⟨w.heap.size + 1,0,none⟩ (.int .i64 (df (vu s.size s):Nat))).drew.heap[D]? = some (.deferred (some [])):=((KeepsOthers.setCell W _ _).trans (.setCell _ _ _)).same D _ hK rfl
  have b1:=zbzt (Boxed.other (hv.set (.slice g (vu s.size s).length cap)) (Nat.ne_of_lt (Nat.lt_succ_self w.heap.size)) (.int .i64 (df (vu s.size s):Nat))) hK'
  have b2:=zbzt ((Boxed.other (W:=W) hg (Nat.succ_ne_self _) (.slice g (vu s.size s).length cap)).set (.int .i64 (df (vu s.size s):Nat))) hK'
  gi_wp2
  gi_region_with_o (fail)
  all_goals gi_wp2
  all_goals
   refine ⟨by simp,.inl ⟨_,_,rfl,run_takeDeferred hK',?_⟩⟩
   refine ⟨.tuple #[.slice g (vu s.size s).length cap,.int .i64 (df (vu s.size s):Nat)],?_,.slice g (vu s.size s).length cap,rfl,?_,?_⟩
   · have c1:=b1.cell
     have c2:=b2.cell
     simp [results,Try.f9,go_sem,c1,c2]
   · exact (((hB.setCell (p:=⟨w.heap.size,0,none⟩) (Nat.le_refl _) _).setCell (p:=⟨w.heap.size + 1,0,none⟩) (Nat.le_succ _) _).drew).trans (Asc.putObj (B:=0) _ hD hK' rfl).below
   · have r1:=hrow.kept (grownBy_setCell' W w.heap.size (.slice g (vu s.size s).length cap)) (.inr (hv.not_row (e:=9) (by decide) hrow).symm)
     have r2:=r1.kept (grownBy_setCell' _ (w.heap.size + 1) (.int .i64 (df (vu s.size s):Nat))) (.inr ((Boxed.other (W:=W) hg (Nat.succ_ne_self _) _).not_row (e:=9) (by decide) r1).symm)
     have r3:=zcff r2 hK'
     have e1:(za8w s).length = (vu s.size s).length:=List.length_map ..
     have e2:(za8w s).map Value.string = (vu s.size s).map fun x => .string x.1:=by rw [za8w,List.map_map]; rfl
     rw [e1,e2]
     exact r3
end Go.Proofs.Ytgkkienmocpnbaa.Wl
namespace Go.Proofs.Ytgkkienmocpnbaa
open Go Go.RowKit Sh Ic
theorem zbr0 (s:ByteArray) (h:s.size ≤ 1000000000):gr s = some (za8w s,(zbju s:Int)):=if_pos fun τ => Wl.texts_callT (T:=9) (by kernel_rfl) (fun w => Wl.scanW s h w) τ
open Go Go.RowKit Sh Ic
open Go Go.RowKit Sh Ic
def og (b:ByteArray):ByteArray:=fy b ++ qy b
theorem oa (b:ByteArray):(qy b).size = 8:=by unfold qy; rw [ByteArray.size_extract,zbqe]; rfl
theorem eq (b:ByteArray):(og b).size = 16 + b.size:=by unfold og; rw [ByteArray.size_append,d7,oa]; omega
theorem nov {n:Nat} (h:n ≤ 1000000000):¬ (9223372036854775807 < (n:Int)):=by omega
theorem zbrz (b:ByteArray) (h:b.size ≤ 1048576):mn b = some (og b):=by
 unfold mn
 rw [zbls b (by omega),obz,Wl.seal_f b (by omega),obz,if_pos (nov (by rw [d7,oa]; omega))]
 rfl
theorem zbu1 (n:Int):IntKind.u64.wrap n = n % 18446744073709551616:=by simp [IntKind.wrap,IntKind.bits,IntKind.signed]
theorem u8m (n:Int):IntKind.u8.wrap n = n % 256:=by simp [IntKind.wrap,IntKind.bits,IntKind.signed]
def zcdx (v:Int) (i:Nat):Int:=IntKind.u8.wrap (Int.fdiv (IntKind.u64.wrap v) (2 ^ (56 - 8 * i)))
theorem zbk2 (v:Int) (i:Nat) (hi:i < 8):zcdx v i = br v i:=by
 rw [zbr1]
 unfold zcdx
 rw [u8m,zbu1,Int.fdiv_eq_ediv_of_nonneg _ (by exact Int.le_of_lt (Int.pow_pos (by decide)))]
 have hm:Nat.min (8 * (7 - i)) 64 = 56 - 8 * i:=by show min (8 * (7 - i)) 64 = _; omega
 rw [hm]
 match i,hi with
 | 0,_ => simp only [Nat.reduceMul,Nat.reduceSub,Nat.reducePow,Int.reducePow,Int.cast_ofNat_Int]; omega
 | 1,_ => simp only [Nat.reduceMul,Nat.reduceSub,Nat.reducePow,Int.reducePow,Int.cast_ofNat_Int]; omega
 | 2,_ => simp only [Nat.reduceMul,Nat.reduceSub,Nat.reducePow,Int.reducePow,Int.cast_ofNat_Int]; omega
 | 3,_ => simp only [Nat.reduceMul,Nat.reduceSub,Nat.reducePow,Int.reducePow,Int.cast_ofNat_Int]; omega
 | 4,_ => simp only [Nat.reduceMul,Nat.reduceSub,Nat.reducePow,Int.reducePow,Int.cast_ofNat_Int]; omega
 | 5,_ => simp only [Nat.reduceMul,Nat.reduceSub,Nat.reducePow,Int.reducePow,Int.cast_ofNat_Int]; omega
 | 6,_ => simp only [Nat.reduceMul,Nat.reduceSub,Nat.reducePow,Int.reducePow,Int.cast_ofNat_Int]; omega
 | 7,_ => simp only [Nat.reduceMul,Nat.reduceSub,Nat.reducePow,Int.reducePow,Int.cast_ofNat_Int]; omega
theorem qz (v:Int) (i:Nat) (hi:i < 8) (l:List Int) (hl:l.length ≤ 8):lq (IntKind.u64.wrap v) l (i:Int) = lq (IntKind.u64.wrap v) (l ++ [br v i]) ((i + 1:Nat):Int):=by
 have w1:IntKind.i64.wrap ((8:Int) * (i:Int)) = ((8 * i:Nat):Int):=by rw [w64 (by omega) (by omega)]; omega
 have w2:IntKind.i64.wrap ((56:Int) - ((8 * i:Nat):Int)) = ((56 - 8 * i:Nat):Int):=by rw [w64 (by omega) (by omega)]; omega
 rw [zb7n,ee,if_pos (by omega),w1,w2,zcdw _ (by omega),if_pos (by omega),if_pos (by omega),Int.toNat_natCast,zbk9 _ (by omega),obz,LS.go,xz i (by omega)]
 rw [show IntKind.u8.wrap (Int.fdiv (IntKind.u64.wrap v) (2 ^ (56 - 8 * i))) = br v i from zbk2 v i hi]
theorem zcfp (v:Int):ms v = some (kg v):=by
 unfold ms
 have e:lq (IntKind.u64.wrap v) [] (0:Int) = some [br v 0,br v 1,br v 2,br v 3,br v 4,br v 5,br v 6,br v 7]:=by
  have e0:=qz v 0 (by decide) [] (by simp)
  have e1:=qz v 1 (by decide) [br v 0] (by simp)
  have e2:=qz v 2 (by decide) [br v 0,br v 1] (by simp)
  have e3:=qz v 3 (by decide) [br v 0,br v 1,br v 2] (by simp)
  have e4:=qz v 4 (by decide) [br v 0,br v 1,br v 2,br v 3] (by simp)
  have e5:=qz v 5 (by decide) [br v 0,br v 1,br v 2,br v 3,br v 4] (by simp)
  have e6:=qz v 6 (by decide) [br v 0,br v 1,br v 2,br v 3,br v 4,br v 5] (by simp)
  have e7:=qz v 7 (by decide) [br v 0,br v 1,br v 2,br v 3,br v 4,br v 5,br v 6] (by simp)
  refine (e0.trans (e1.trans (e2.trans (e3.trans (e4.trans (e5.trans (e6.trans (e7.trans ?_))))))))
  rw [zb7n,ee,if_neg (by decide),obz,LS.go]
  rfl
 rw [e,obz]
 rfl
theorem zbky (s:ByteArray) (hs:s.size ≤ 1048576):ui s = some (fy s):=by
 unfold ui
 rw [zcfp,obz,if_pos (nov (by rw [gy]; omega))]
 rfl
theorem zboo (b:ByteArray) (h:b.size ≤ 1048576):zbmi b = some (og b):=by
 unfold zbmi
 rw [zbky b h,obz,zbhx b (by omega),obz,if_pos ⟨by omega,by rw [zbqe]; omega⟩]
 rw [if_pos (nov (by have:=oa b; unfold qy at this; rw [d7,this]; omega))]
 rfl
def zbde (u:Int) (l:List UInt8):Int:=l.foldl (fun v c => v * 256 + (c.toNat:Int)) u
theorem zboq (v:Int) (c:UInt8):IntKind.u64.wrap ((BitVec.ofInt IntKind.u64.bits (IntKind.u64.wrap (v * 2 ^ (Nat.min 8 IntKind.u64.bits))) ||| BitVec.ofInt IntKind.u64.bits (IntKind.u64.wrap (c.toNat:Int))).toNat:Int) = (v * 256 + c.toNat) % 18446744073709551616:=by
 show IntKind.u64.wrap ((BitVec.ofInt 64 (IntKind.u64.wrap (v * 2 ^ 8)) ||| BitVec.ofInt 64 (IntKind.u64.wrap (c.toNat:Int))).toNat:Int) = _
 have ww:∀ n:Int,BitVec.ofInt 64 (IntKind.u64.wrap n) = BitVec.ofInt 64 n:=fun n => by
  rw [zbu1]
  apply BitVec.eq_of_toNat_eq
  rw [BitVec.toNat_ofInt,BitVec.toNat_ofInt]
  omega
 rw [ww,ww]
 have h1:BitVec.ofInt 64 (v * 2 ^ 8) = (BitVec.ofInt 64 v) <<< 8:=by
  rw [BitVec.ofInt_mul,BitVec.shiftLeft_eq_mul_twoPow]; rfl
 have h2:BitVec.ofInt 64 (c.toNat:Int) = BitVec.ofNat 64 c.toNat:=BitVec.ofInt_natCast ..
 rw [h1,h2,zbvx _ _ c.toNat_lt,← h1,← h2,← BitVec.ofInt_add,zbu1,BitVec.toNat_ofInt]
 omega
theorem zbom (r:bq) (hs:8 ≤ r.S.size) (n:Nat):∀ (i:Nat) (u:Int),n + i = 8 → kj r (u % 18446744073709551616) (i:Int) = some (zbde u ((r.S.data.toList.drop i).take n) % 18446744073709551616):=by
 induction n with
 | zero =>
  intro i u h
  rw [zb8i,db,if_neg (by omega),obz,LS.go]; rfl
 | succ n ih =>
  intro i u h
  have hb:ixB r.S (i:Int) = some ((r.S.data.getD i 0).toNat:Int):=by
   unfold ixB; rw [if_pos (by omega),Int.toNat_natCast]
  rw [zb8i,db,if_pos (by omega),hb,obz,zboq,obz,obz,LS.go,xz i (by omega),zbwo r.S i (by omega),List.take_succ_cons]
  have e:(u % 18446744073709551616 * 256 + ((r.S.data.getD i 0).toNat:Int)) % 18446744073709551616 = (u * 256 + ((r.S.data.getD i 0).toNat:Int)) % 18446744073709551616:=by omega
  rw [e]
  exact ih (i + 1) _ (by omega)
theorem zbdd (l:List UInt8):IntKind.i64.wrap (zbde 0 l % 18446744073709551616) = nd 0 l:=by
 have h1:=zbi7 l 0 0 rfl
 rw [zb0f] at h1
 rw [← h1]
 show IntKind.i64.wrap (zbde 0 l % 18446744073709551616) = IntKind.i64.wrap (zbde 0 l)
 rw [IntKind.wrap_i64,IntKind.wrap_i64]
 omega
theorem zbgk (s:ByteArray):(s.extract 0 8).data.toList = s.data.toList.take 8:=by
 rw [ByteArray.data_extract,Array.toList_extract]; rfl
theorem zba6 (s:ByteArray):oq ⟨s,false⟩ 1048576 = some (match xo s with | some x => (x.1,⟨x.2,false⟩) | none => (⟨#[]⟩,⟨⟨#[]⟩,true⟩)):=by
 have e0:zbin (s.extract 0 8).data.toList = nd 0 (s.data.toList.take 8):=by rw [zbgk]; rfl
 unfold oq pj vj
 rw [if_neg (by simp)]
 by_cases h8:8 ≤ s.size
 · rw [if_neg (by simp only; omega)]
   have e1:kj ⟨s,false⟩ (0:Int) (0:Int) = some (zbde 0 (s.data.toList.take 8) % 18446744073709551616):=zbom ⟨s,false⟩ h8 8 0 0 rfl
   rw [e1,obz,if_pos ⟨by omega,by simp only; omega⟩,obz,zbdd]
   have sz:(s.extract 8 s.size).size = s.size - 8:=by rw [ByteArray.size_extract]; omega
   simp only
   rw [if_neg (by simp)]
   unfold xo
   rw [e0]
   generalize nd 0 (s.data.toList.take 8) = n
   by_cases h0:n < 0
   · rw [if_pos h0,if_neg (by omega)]
     rfl
   · rw [if_neg h0]
     by_cases h1:1048576 < n
     · rw [if_pos h1,if_neg (by omega)]
       rfl
     · rw [if_neg h1,obz]
       simp only
       rw [if_neg (by simp),sz]
       by_cases h2:n + 8 ≤ s.size
       · obtain ⟨k,rfl⟩:=Int.eq_ofNat_of_zero_le (Int.not_lt.1 h0)
         rw [if_neg (by omega),if_pos ⟨by omega,by omega⟩,if_pos ⟨h8,by omega,by omega,h2⟩]
         simp only [Int.toNat_natCast,Option.some.injEq,Prod.mk.injEq,bq.mk.injEq,and_true]
         rw [ByteArray.extract_extract,ByteArray.extract_extract]
         exact ⟨by congr 1; omega,by congr 1; omega⟩
       · rw [if_pos (by omega),if_neg (by omega)]
         rfl
 · rw [if_pos (by simp only; omega)]
   unfold xo
   rw [if_neg (by omega)]
   rfl
end Go.Proofs.Ytgkkienmocpnbaa
