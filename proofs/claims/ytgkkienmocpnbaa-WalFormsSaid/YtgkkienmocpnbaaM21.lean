import Derived.Test.YtgkkienmocpnbaaM20
import Derived.Maps.OwnIn
set_option linter.unusedVariables false
set_option linter.unusedSimpArgs false
set_option linter.unusedSectionVars false
namespace Go.Proofs.Ytgkkienmocpnbaa.Wl
open Go Go.RowKit Sh Ic
attribute [local go_sem] Oper.semAt_some
theorem vj (f:Nat):Fence.wide.fn f = True:=rfl
theorem vl:(Fence.wide.depth.isSome = true) = False:=by simp [Fence.wide]
attribute [local go_sem] vj vl
section
variable {n:Nat} {P:Program} {ops:Array Oper} {Q:Exit → Act → World → Prop} {md:Region.Mode} {i:Nat} {oi:Oper} {v:Value} {fuel:Nat} {listed:Array Bool} {a:Act} {w:World}
theorem cd (hi:ops[i]? = some oi) (hs:Region.noSelect ops = true) (hf:Region.free md ops listed i = true) (hr:(Region.ready md ops listed).contains i = true) (hw:Region.wanted oi (yielded ops a.tmps) = true)
 (hv:∀ w,(execOp a.eval oi).run P w = .ok (.value v) w) (hb:∀ w,oi.about P w a.eval = none) (hQ:∀ c a w,Q (.panic c) (a.put oi.dst v) w → Q (.panic c) a w)
 (h:wpAnyIn Fence.wide n P md ops Q fuel (listed.setIfInBounds i true) (a.put oi.dst v) w):wpAnyIn Fence.wide n P md ops Q (fuel + 1) listed a w :=
 wpAnyIn_take rfl hi hs hf hr hQ ⟨Or.inl ⟨hw,hv⟩,hb⟩ h
theorem kw (hi:ops[i]? = some oi) (hs:Region.noSelect ops = true) (hf:Region.free md ops listed i = true) (hr:(Region.ready md ops listed).contains i = true) (hw:Region.wanted oi (yielded ops a.tmps) = false)
 (hb:∀ w,oi.about P w a.eval = none) (hQ:∀ c a w,Q (.panic c) (a.put oi.dst undef) w → Q (.panic c) a w)
 (h:wpAnyIn Fence.wide n P md ops Q fuel (listed.setIfInBounds i true) (a.put oi.dst undef) w):wpAnyIn Fence.wide n P md ops Q (fuel + 1) listed a w :=
 wpAnyIn_take rfl hi hs hf hr hQ ⟨Or.inr ⟨hw,rfl⟩,hb⟩ h
theorem ut (hr:Region.ready md ops listed = [i]) (hi:ops[i]? = some oi) (hw:Region.wanted oi (yielded ops a.tmps) = false)
 (h:wpAnyIn Fence.wide n P md ops Q fuel (listed.setIfInBounds i true) (a.put oi.dst undef) w):wpAnyIn Fence.wide n P md ops Q (fuel + 1) listed a w :=
 wpAnyIn_ready hr (by simp) (AllReadyIn.cons hi (fun K hK => by rw [if_neg (by rw [hw]; decide)]; exact ⟨fun _ _ => trivial,hK _ _ h⟩) AllReadyIn.nil)
end
theorem bl (bs:ByteArray):∀ n i r,bs.size - i = n → ByteArray.toList.loop bs i r = r.reverse ++ bs.data.toList.drop i:=by
 intro n
 induction n with
 | zero =>
  intro i r h
  rw [ByteArray.toList.loop,if_neg (by omega),List.drop_eq_nil_of_le (by show bs.data.toList.length ≤ i; rw [Array.length_toList]; show bs.size ≤ i; omega),List.append_nil]
 | succ n ih =>
  intro i r h
  rw [ByteArray.toList.loop,if_pos (by omega),ih _ _ (by omega),List.reverse_cons,List.append_assoc]
  have hi:i < bs.data.toList.length:=by rw [Array.length_toList]; show i < bs.size; omega
  rw [List.drop_eq_getElem_cons hi]
  congr 1
  have hi2:i < bs.data.size:=by rw [← Array.length_toList]; exact hi
  simp only [ByteArray.get!]
  rw [getElem!_pos bs.data i hi2]
  simp
theorem zbjo {a b:ByteArray} (h:a.toList = b.toList):a = b:=by
 unfold ByteArray.toList at h
 rw [bl a _ 0 [] rfl,bl b _ 0 [] rfl] at h
 exact ByteArray.ext (Array.ext' (by simpa using h))
theorem Hid.mk' {p:Prop} (h:p):Hid p:=h
def zbkw (x:ByteArray × Nat):Array Value:=#[.int .i64 (x.2:Nat),.string x.1]
def zbd0 (B:Nat) (W:World):Nat:=match W.cell? ⟨B,0,none⟩ with | some (.string s) => s.size | _ => 0
theorem Boxed.through {W W':World} {B:Nat} {T:TypeId} {v:Value} {p:Value} {τ:TH} (h:Boxed W B T v) (hr:RdS W p τ W'):Boxed W' B T v:=(hr.below.block B h.lt).trans h
set_option maxRecDepth 100000 in
set_option maxHeartbeats 4000000 in
theorem j5 (n:Nat) (hn:3 ≤ n) (B l:Nat) (s:ByteArray) (hs:s.size ≤ 1000000000) (J:List (ByteArray × Nat) → World → Prop) (W:World) (hB:Boxed W B 9 (.string s)) (hJ:∀ ys W1 W2,J ys W1 → Asd B W1 W2 → J ys W2)
 (hY:∀ pre x W1,J pre W1 → pre ++ [x] <+: vu s.size s → YieldAt Fence.wide (n - 1) Try.prog l (zbkw x) W1 fun e W' => e = .returned (.bool true) ∧ J (pre ++ [x]) W' ∧ W'.heap[B]? = W1.heap[B]?)
 (h0:J [] W):CallsIn Fence.wide n Try.prog 30 #[.func (.yield l) #[] #[],.pointer (some ⟨B,0,none⟩)] W fun e W' => (∃ v,e = .returned v) ∧ J (vu s.size s) W':=by
 have hmx:Try.prog.follows .mixedOrders = true:=by kernel_rfl
 refine callsIn_of_wp Try.func30 rfl trivial ?_ rfl
 simp only [Try.ntmps30,List.size_toArray,List.length_cons,List.length_nil,Nat.reduceAdd,Nat.reduceSub,Array.replicate_succ,Array.replicate_zero,List.push_toArray,List.append_toArray,List.nil_append,List.cons_append]
 gi_wp2
 gi_loopw [] (fun wr => ∃ pre k s',vu s.size s = pre ++ vu k s' ∧ s'.size ≤ k ∧ s'.size ≤ 1000000000 ∧ Boxed wr B 9 (.string s') ∧ J pre wr) (fun wr => zbd0 B wr)
 case atStart =>
  exact ⟨[],s.size,s,rfl,Nat.le_refl _,hs,hB,h0⟩
 case round =>
  obtain ⟨pre,k,s',hx,hk,hs',hb,hj⟩:=hrel
  have hc:=hb.cell
  have hf:=hb.frozen
  have hend:ia s' = none → pre = vu s.size s:=fun q => by
   rw [hx]
   cases k with
   | zero => exact (List.append_nil _).symm
   | succ k => unfold vu; rw [q]; exact (List.append_nil _).symm
  cases hw:xo s' with
  | none =>
   have ht:=zae4 hw
   have hwn:IntKind.i64.wrap (s'.size:Int) = (s'.size:Int):=w64 (by omega) (by omega)
   have hst:ia s' = none:=by unfold ia; rw [hw]; rfl
   gi_wp2
   gi_at_call 31
   refine (callsIn_wide.2 (zbkb s' _)).mono ?_
   rintro e W1 ⟨p,rfl,h1⟩
   gi_wp2
   gi_at_call 32
   refine (callsIn_wide.2 (zbdb ht h1)).mono ?_
   rintro e W2 ⟨rfl,h2⟩
   clear h1
   have hc1:=(Boxed.through hb h2.drew).cell
   gi_wp2
   refine wpIn_mono (Q:=Exit.then (fun a w => a = { tmps:=#[.func (.yield l) #[] #[],.pointer (some ⟨B,0,none⟩),undef,p,.string ⟨#[]⟩,.int .i64 (s'.size:Nat),.string s',p,p,.string ⟨#[]⟩,.string s',.int .i64 (s'.size:Nat),p,.int .i64 0,.int .i64 (s'.size:Nat),u15,u16,u17,u18,u19,u20,u21,u22,u23,u24,u25,u26,u27,u28,u29,u30,u31,u32,u33,u34,u35,u36,u37,u38,u39,u40,u41,u42,u43],defers:=[] } ∧ RdS wr p (rτ ⟨⟨#[]⟩,true⟩) w) fun _ _ _ => False) ?_ ?_
   ·
    refine wpIn_region_any hmx ?_
    change wpAnyIn _ _ _ _ _ _ _ _ _ (World.drew _)
    refine cd (i:=2) (v:=p) rfl (by kernel_rfl) (by kernel_rfl) (by kernel_rfl) (by kernel_rfl) (fun w => by kernel_rfl) (fun _ => rfl) (fun _ _ _ h => h) ?_
    refine wpAnyIn_ready (rs:=[0,3]) (by kernel_rfl) (by simp) (AllReadyIn.cons rfl (fun K hK => ?_) (AllReadyIn.cons rfl (fun K hK => ?_) AllReadyIn.nil))
    · go_simp
      refine hK _ _ ?_
      clear hK K
      refine cd (i:=1) (v:=.int .i64 (s'.size:Nat)) rfl (by kernel_rfl) (by kernel_rfl) (by kernel_rfl) (by kernel_rfl) (fun w => by go_simp) (fun _ => rfl) (fun _ _ _ h => h) ?_
      refine wpAnyIn_ready (rs:=[3]) (by kernel_rfl) (by simp) (AllReadyIn.cons rfl (fun K hK => ?_) AllReadyIn.nil)
      go_simp
      gi_at_call 33
      refine (callsIn_wide.2 (zbft h2.drew)).mono ?_
      rintro e W3 ⟨rfl,h3⟩
      refine hK _ _ ?_
      clear hK K
      refine cd (i:=4) (v:=.int .i64 (s'.size:Nat)) rfl (by kernel_rfl) (by kernel_rfl) (by kernel_rfl) (by kernel_rfl) (fun w => by go_simp <;> exact hwn) (fun _ => rfl) (fun _ _ _ h => h) ?_
      refine cd (i:=5) (v:=.int .i64 (s'.size:Nat)) rfl (by kernel_rfl) (by kernel_rfl) (by kernel_rfl) (by kernel_rfl) (fun w => by kernel_rfl) (fun _ => rfl) (fun _ _ _ h => h) ?_
      refine wpAnyIn_done (by kernel_rfl) ⟨by kernel_rfl,h3⟩ _
    · go_simp
      gi_at_call 33
      refine (callsIn_wide.2 (zbft h2.drew)).mono ?_
      rintro e W3 ⟨rfl,h3⟩
      refine hK _ _ ?_
      clear hK K
      have hc3:=(Boxed.through hb h3).cell
      refine wpAnyIn_ready (rs:=[0]) (by kernel_rfl) (by simp) (AllReadyIn.cons rfl (fun K hK => ?_) AllReadyIn.nil)
      go_simp
      refine hK _ _ ?_
      clear hK K
      refine cd (i:=1) (v:=.int .i64 (s'.size:Nat)) rfl (by kernel_rfl) (by kernel_rfl) (by kernel_rfl) (by kernel_rfl) (fun w => by go_simp) (fun _ => rfl) (fun _ _ _ h => h) ?_
      refine cd (i:=4) (v:=.int .i64 (s'.size:Nat)) rfl (by kernel_rfl) (by kernel_rfl) (by kernel_rfl) (by kernel_rfl) (fun w => by go_simp <;> exact hwn) (fun _ => rfl) (fun _ _ _ h => h) ?_
      refine cd (i:=5) (v:=.int .i64 (s'.size:Nat)) rfl (by kernel_rfl) (by kernel_rfl) (by kernel_rfl) (by kernel_rfl) (fun w => by kernel_rfl) (fun _ => rfl) (fun _ _ _ h => h) ?_
      refine wpAnyIn_done (by kernel_rfl) ⟨by kernel_rfl,h3⟩ _
   rintro e a W3 h3
   cases e with
   | normal =>
    obtain ⟨rfl,h3⟩:=h3
    gi_wp2
    refine wpIn_mono (Q:=Exit.then (fun a w => a = { tmps:=#[.func (.yield l) #[] #[],.pointer (some ⟨B,0,none⟩),undef,p,.string ⟨#[]⟩,.int .i64 (s'.size:Nat),.string s',p,p,.string ⟨#[]⟩,.string s',.int .i64 (s'.size:Nat),p,.int .i64 0,.int .i64 (s'.size:Nat),p,.bool true,.bool true,undef,undef,undef,.bool true,.bool true,undef,undef,undef,undef,undef,undef,undef,undef,.bool true,.bool true,undef,undef,undef,undef,undef,undef,.bool true,u40,u41,u42,u43],defers:=[] } ∧ RdS wr p (rτ ⟨⟨#[]⟩,true⟩) w) fun _ _ _ => False) ?_ ?_
    ·
     refine wpIn_region_any hmx ?_
     change wpAnyIn _ _ _ _ _ _ _ _ _ (World.drew _)
     refine cd (i:=0) (v:=p) rfl (by kernel_rfl) (by kernel_rfl) (by kernel_rfl) (by kernel_rfl) (fun w => by kernel_rfl) (fun _ => rfl) (fun _ _ _ h => h) ?_
     refine wpAnyIn_ready (rs:=[1]) (by kernel_rfl) (by simp) (AllReadyIn.cons rfl (fun K hK => ?_) AllReadyIn.nil)
     go_simp
     gi_at_call 34
     refine (callsIn_wide.2 (zbcu h3.drew)).mono ?_
     rintro e W4 ⟨rfl,h4⟩
     refine hK _ _ ?_
     clear hK K
     refine cd (i:=2) (v:=.bool true) rfl (by kernel_rfl) (by kernel_rfl) (by kernel_rfl) (by kernel_rfl) (fun w => by kernel_rfl) (fun _ => rfl) (fun _ _ _ h => h) ?_
     refine kw (i:=3) rfl (by kernel_rfl) (by kernel_rfl) (by kernel_rfl) (by kernel_rfl) (fun _ => rfl) (fun _ _ _ h => h) ?_
     refine ut (i:=4) (by kernel_rfl) rfl (by kernel_rfl) ?_
     refine kw (i:=5) rfl (by kernel_rfl) (by kernel_rfl) (by kernel_rfl) (by kernel_rfl) (fun _ => rfl) (fun _ _ _ h => h) ?_
     refine cd (i:=6) (v:=.bool true) rfl (by kernel_rfl) (by kernel_rfl) (by kernel_rfl) (by kernel_rfl) (fun w => by kernel_rfl) (fun _ => rfl) (fun _ _ _ h => h) ?_
     refine cd (i:=7) (v:=.bool true) rfl (by kernel_rfl) (by kernel_rfl) (by kernel_rfl) (by kernel_rfl) (fun w => by kernel_rfl) (fun _ => rfl) (fun _ _ _ h => h) ?_
     refine kw (i:=8) rfl (by kernel_rfl) (by kernel_rfl) (by kernel_rfl) (by kernel_rfl) (fun _ => rfl) (fun _ _ _ h => h) ?_
     refine kw (i:=9) rfl (by kernel_rfl) (by kernel_rfl) (by kernel_rfl) (by kernel_rfl) (fun _ => rfl) (fun _ _ _ h => h) ?_
     refine kw (i:=10) rfl (by kernel_rfl) (by kernel_rfl) (by kernel_rfl) (by kernel_rfl) (fun _ => rfl) (fun _ _ _ h => h) ?_
     refine kw (i:=11) rfl (by kernel_rfl) (by kernel_rfl) (by kernel_rfl) (by kernel_rfl) (fun _ => rfl) (fun _ _ _ h => h) ?_
     refine kw (i:=12) rfl (by kernel_rfl) (by kernel_rfl) (by kernel_rfl) (by kernel_rfl) (fun _ => rfl) (fun _ _ _ h => h) ?_
     refine kw (i:=13) rfl (by kernel_rfl) (by kernel_rfl) (by kernel_rfl) (by kernel_rfl) (fun _ => rfl) (fun _ _ _ h => h) ?_
     refine ut (i:=14) (by kernel_rfl) rfl (by kernel_rfl) ?_
     refine kw (i:=15) rfl (by kernel_rfl) (by kernel_rfl) (by kernel_rfl) (by kernel_rfl) (fun _ => rfl) (fun _ _ _ h => h) ?_
     refine cd (i:=16) (v:=.bool true) rfl (by kernel_rfl) (by kernel_rfl) (by kernel_rfl) (by kernel_rfl) (fun w => by kernel_rfl) (fun _ => rfl) (fun _ _ _ h => h) ?_
     refine cd (i:=17) (v:=.bool true) rfl (by kernel_rfl) (by kernel_rfl) (by kernel_rfl) (by kernel_rfl) (fun w => by kernel_rfl) (fun _ => rfl) (fun _ _ _ h => h) ?_
     refine kw (i:=18) rfl (by kernel_rfl) (by kernel_rfl) (by kernel_rfl) (by kernel_rfl) (fun _ => rfl) (fun _ _ _ h => h) ?_
     refine kw (i:=19) rfl (by kernel_rfl) (by kernel_rfl) (by kernel_rfl) (by kernel_rfl) (fun _ => rfl) (fun _ _ _ h => h) ?_
     refine kw (i:=20) rfl (by kernel_rfl) (by kernel_rfl) (by kernel_rfl) (by kernel_rfl) (fun _ => rfl) (fun _ _ _ h => h) ?_
     refine kw (i:=21) rfl (by kernel_rfl) (by kernel_rfl) (by kernel_rfl) (by kernel_rfl) (fun _ => rfl) (fun _ _ _ h => h) ?_
     refine ut (i:=22) (by kernel_rfl) rfl (by kernel_rfl) ?_
     refine kw (i:=23) rfl (by kernel_rfl) (by kernel_rfl) (by kernel_rfl) (by kernel_rfl) (fun _ => rfl) (fun _ _ _ h => h) ?_
     refine cd (i:=24) (v:=.bool true) rfl (by kernel_rfl) (by kernel_rfl) (by kernel_rfl) (by kernel_rfl) (fun w => by kernel_rfl) (fun _ => rfl) (fun _ _ _ h => h) ?_
     refine wpAnyIn_done (by kernel_rfl) ⟨by kernel_rfl,h4⟩ _
    rintro e a W4 h4
    cases e with
    | normal =>
     obtain ⟨rfl,h4⟩:=h4
     gi_wp2
     refine bodyPost_ret (results_none rfl _ _ _) rfl ?_
     exact ⟨⟨_,rfl⟩,hend hst ▸ hJ _ _ _ hj (.of_below h4.below)⟩
    | _ => exact h4.elim
   | _ => exact h3.elim
  | some x =>
   obtain ⟨b,t⟩:=x
   obtain ⟨ht,hsz,hbs,-,-⟩:=text_some hw
   have hwn:IntKind.i64.wrap ((s'.size:Int) - (t.size:Int)) = 8 + (b.size:Int):=by rw [w64 (by omega) (by omega)]; omega
   have hw8:IntKind.i64.wrap (8 + (b.size:Int) + 8) = 16 + (b.size:Int):=by rw [w64 (by omega) (by omega)]; omega
   have ht8:(8 + (b.size:Int)).toNat = 8 + b.size:=by omega
   have ht16:(16 + (b.size:Int)).toNat = 16 + b.size:=by omega
   have HSZ:=Hid.mk' hsz
   clear hsz
   gi_wp2
   gi_at_call 31
   refine (callsIn_wide.2 (zbkb s' _)).mono ?_
   rintro e W1 ⟨p,rfl,h1⟩
   gi_wp2
   gi_at_call 32
   refine (callsIn_wide.2 (zbdb ht h1)).mono ?_
   rintro e W2 ⟨rfl,h2⟩
   clear h1
   have hc1:=(Boxed.through hb h2.drew).cell
   gi_wp2
   refine wpIn_mono (Q:=Exit.then (fun a w => a = { tmps:=#[.func (.yield l) #[] #[],.pointer (some ⟨B,0,none⟩),undef,p,.string b,.int .i64 (8 + (b.size:Int)),.string s',p,p,.string b,.string s',.int .i64 (s'.size:Nat),p,.int .i64 (t.size:Nat),.int .i64 (8 + (b.size:Int)),u15,u16,u17,u18,u19,u20,u21,u22,u23,u24,u25,u26,u27,u28,u29,u30,u31,u32,u33,u34,u35,u36,u37,u38,u39,u40,u41,u42,u43],defers:=[] } ∧ RdS wr p (rτ ⟨t,false⟩) w) fun _ _ _ => False) ?_ ?_
   ·
    refine wpIn_region_any hmx ?_
    change wpAnyIn _ _ _ _ _ _ _ _ _ (World.drew _)
    refine cd (i:=2) (v:=p) rfl (by kernel_rfl) (by kernel_rfl) (by kernel_rfl) (by kernel_rfl) (fun w => by kernel_rfl) (fun _ => rfl) (fun _ _ _ h => h) ?_
    refine wpAnyIn_ready (rs:=[0,3]) (by kernel_rfl) (by simp) (AllReadyIn.cons rfl (fun K hK => ?_) (AllReadyIn.cons rfl (fun K hK => ?_) AllReadyIn.nil))
    · go_simp
      refine hK _ _ ?_
      clear hK K
      refine cd (i:=1) (v:=.int .i64 (s'.size:Nat)) rfl (by kernel_rfl) (by kernel_rfl) (by kernel_rfl) (by kernel_rfl) (fun w => by go_simp) (fun _ => rfl) (fun _ _ _ h => h) ?_
      refine wpAnyIn_ready (rs:=[3]) (by kernel_rfl) (by simp) (AllReadyIn.cons rfl (fun K hK => ?_) AllReadyIn.nil)
      go_simp
      gi_at_call 33
      refine (callsIn_wide.2 (zbft h2.drew)).mono ?_
      rintro e W3 ⟨rfl,h3⟩
      refine hK _ _ ?_
      clear hK K
      refine cd (i:=4) (v:=.int .i64 (8 + (b.size:Int))) rfl (by kernel_rfl) (by kernel_rfl) (by kernel_rfl) (by kernel_rfl) (fun w => by go_simp <;> exact hwn) (fun _ => rfl) (fun _ _ _ h => h) ?_
      refine cd (i:=5) (v:=.int .i64 (8 + (b.size:Int))) rfl (by kernel_rfl) (by kernel_rfl) (by kernel_rfl) (by kernel_rfl) (fun w => by kernel_rfl) (fun _ => rfl) (fun _ _ _ h => h) ?_
      refine wpAnyIn_done (by kernel_rfl) ⟨by kernel_rfl,h3⟩ _
    · go_simp
      gi_at_call 33
      refine (callsIn_wide.2 (zbft h2.drew)).mono ?_
      rintro e W3 ⟨rfl,h3⟩
      refine hK _ _ ?_
      clear hK K
      have hc3:=(Boxed.through hb h3).cell
      refine wpAnyIn_ready (rs:=[0]) (by kernel_rfl) (by simp) (AllReadyIn.cons rfl (fun K hK => ?_) AllReadyIn.nil)
      go_simp
      refine hK _ _ ?_
      clear hK K
      refine cd (i:=1) (v:=.int .i64 (s'.size:Nat)) rfl (by kernel_rfl) (by kernel_rfl) (by kernel_rfl) (by kernel_rfl) (fun w => by go_simp) (fun _ => rfl) (fun _ _ _ h => h) ?_
      refine cd (i:=4) (v:=.int .i64 (8 + (b.size:Int))) rfl (by kernel_rfl) (by kernel_rfl) (by kernel_rfl) (by kernel_rfl) (fun w => by go_simp <;> exact hwn) (fun _ => rfl) (fun _ _ _ h => h) ?_
      refine cd (i:=5) (v:=.int .i64 (8 + (b.size:Int))) rfl (by kernel_rfl) (by kernel_rfl) (by kernel_rfl) (by kernel_rfl) (fun w => by kernel_rfl) (fun _ => rfl) (fun _ _ _ h => h) ?_
      refine wpAnyIn_done (by kernel_rfl) ⟨by kernel_rfl,h3⟩ _
   rintro e a W3 h3
   cases e with
   | normal =>
    obtain ⟨rfl,h3⟩:=h3
    gi_wp2
    by_cases h8:8 ≤ t.size
    · by_cases heq:s'.extract (8 + b.size) (16 + b.size) = qy b
      · have hsz:=HSZ.out
        have hle:16 + (b.size:Int) ≤ s'.size:=by omega
        have hl0:(0:Int) ≤ 8 + (b.size:Int):=by omega
        have hl1:(8:Int) + (b.size:Int) ≤ 16 + (b.size:Int):=by omega
        have hnl:¬ (t.size:Int) < 8:=by omega
        have hl2:(8:Int) ≤ t.size:=by omega
        clear hsz
        obtain ⟨k,rfl⟩:∃ k',k = k' + 1:=⟨k - 1,by have:=HSZ.out; omega⟩
        have hst:ia s' = some (b,16 + b.size,s'.extract (16 + b.size) s'.size):=by unfold ia; rw [hw]; exact if_pos ⟨h8,heq⟩
        have hx2:vu s.size s = (pre ++ [(b,16 + b.size)]) ++ vu k (s'.extract (16 + b.size) s'.size):=by
         rw [hx]
         simp only [vu,hst,List.append_assoc,List.singleton_append]
        have hpx:pre ++ [(b,16 + b.size)] <+: vu s.size s:=⟨_,hx2.symm⟩
        clear hx hst
        have HX:=Hid.mk' hx2
        clear hx2
        refine wpIn_mono (Q:=Exit.then (fun a w => a = { tmps:=#[.func (.yield l) #[] #[],.pointer (some ⟨B,0,none⟩),undef,p,.string b,.int .i64 (8 + (b.size:Int)),.string s',p,p,.string b,.string s',.int .i64 (s'.size:Nat),p,.int .i64 (t.size:Nat),.int .i64 (8 + (b.size:Int)),p,.bool false,.bool false,p,.int .i64 (t.size:Nat),.bool false,.bool false,.bool false,.string s',.int .i64 (8 + (b.size:Int)),.int .i64 (8 + (b.size:Int)),.int .i64 (16 + (b.size:Int)),.string (qy b),.string b,.string (qy b),.bool false,.bool false,.bool false,.func (.yield l) #[] #[],.int .i64 (8 + (b.size:Int)),.int .i64 (16 + (b.size:Int)),.string b,.bool true,.bool false,.bool false,u40,u41,u42,u43],defers:=[] } ∧ J (pre ++ [(b,16 + b.size)]) w ∧ Boxed w B 9 (.string s')) fun _ _ _ => False) ?_ ?_
        ·
         refine wpIn_region_any hmx ?_
         change wpAnyIn _ _ _ _ _ _ _ _ _ (World.drew _)
         refine cd (i:=0) (v:=p) rfl (by kernel_rfl) (by kernel_rfl) (by kernel_rfl) (by kernel_rfl) (fun w => by kernel_rfl) (fun _ => rfl) (fun _ _ _ h => h) ?_
         refine wpAnyIn_ready (rs:=[1]) (by kernel_rfl) (by simp) (AllReadyIn.cons rfl (fun K hK => ?_) AllReadyIn.nil)
         go_simp
         gi_at_call 34
         refine (callsIn_wide.2 (zbcu h3.drew)).mono ?_
         rintro e W4 ⟨rfl,h4⟩
         refine hK _ _ ?_
         clear hK K
         refine cd (i:=2) (v:=.bool false) rfl (by kernel_rfl) (by kernel_rfl) (by kernel_rfl) (by kernel_rfl) (fun w => by kernel_rfl) (fun _ => rfl) (fun _ _ _ h => h) ?_
         refine cd (i:=3) (v:=p) rfl (by kernel_rfl) (by kernel_rfl) (by kernel_rfl) (by kernel_rfl) (fun w => by kernel_rfl) (fun _ => rfl) (fun _ _ _ h => h) ?_
         refine wpAnyIn_ready (rs:=[4]) (by kernel_rfl) (by simp) (AllReadyIn.cons rfl (fun K hK => ?_) AllReadyIn.nil)
         go_simp
         gi_at_call 33
         refine (callsIn_wide.2 (zbft h4)).mono ?_
         rintro e W5 ⟨rfl,h5⟩
         refine hK _ _ ?_
         clear hK K
         refine cd (i:=5) (v:=.bool false) rfl (by kernel_rfl) (by kernel_rfl) (by kernel_rfl) (by kernel_rfl) (fun w => by go_simp) (fun _ => rfl) (fun _ _ _ h => h) ?_
         refine cd (i:=6) (v:=.bool false) rfl (by kernel_rfl) (by kernel_rfl) (by kernel_rfl) (by kernel_rfl) (fun w => by kernel_rfl) (fun _ => rfl) (fun _ _ _ h => h) ?_
         refine cd (i:=7) (v:=.bool false) rfl (by kernel_rfl) (by kernel_rfl) (by kernel_rfl) (by kernel_rfl) (fun w => by kernel_rfl) (fun _ => rfl) (fun _ _ _ h => h) ?_
         refine cd (i:=9) (v:=.int .i64 (8 + (b.size:Int))) rfl (by kernel_rfl) (by kernel_rfl) (by kernel_rfl) (by kernel_rfl) (fun w => by kernel_rfl) (fun _ => rfl) (fun _ _ _ h => h) ?_
         refine cd (i:=10) (v:=.int .i64 (8 + (b.size:Int))) rfl (by kernel_rfl) (by kernel_rfl) (by kernel_rfl) (by kernel_rfl) (fun w => by kernel_rfl) (fun _ => rfl) (fun _ _ _ h => h) ?_
         refine cd (i:=11) (v:=.int .i64 (16 + (b.size:Int))) rfl (by kernel_rfl) (by kernel_rfl) (by kernel_rfl) (by kernel_rfl) (fun w => by go_simp <;> exact hw8) (fun _ => rfl) (fun _ _ _ h => h) ?_
         refine cd (i:=13) (v:=.string b) rfl (by kernel_rfl) (by kernel_rfl) (by kernel_rfl) (by kernel_rfl) (fun w => by kernel_rfl) (fun _ => rfl) (fun _ _ _ h => h) ?_
         have hc5:=(Boxed.through hb h5).cell
         refine wpAnyIn_ready (rs:=[8,14]) (by kernel_rfl) (by simp) (AllReadyIn.cons rfl (fun K hK => ?_) (AllReadyIn.cons rfl (fun K hK => ?_) AllReadyIn.nil))
         · go_simp
           refine hK _ _ ?_
           clear hK K
           refine cd (i:=12) (v:=.string (qy b)) rfl (by kernel_rfl) (by kernel_rfl) (by kernel_rfl) (by kernel_rfl) (fun w => by go_simp) (fun _ => rfl) (fun _ _ _ h => h) ?_
           refine wpAnyIn_ready (rs:=[14]) (by kernel_rfl) (by simp) (AllReadyIn.cons rfl (fun K hK => ?_) AllReadyIn.nil)
           go_simp
           gi_at_call 16
           refine (callsIn_wide.2 (zbmv hbs _)).mono ?_
           rintro e W6 ⟨rfl,hb6⟩
           have h6:=h5.later hb6
           refine hK _ _ ?_
           clear hK K
           refine cd (i:=15) (v:=.bool false) rfl (by kernel_rfl) (by kernel_rfl) (by kernel_rfl) (by kernel_rfl) (fun w => by go_simp) (fun _ => rfl) (fun _ _ _ h => h) ?_
           refine cd (i:=16) (v:=.bool false) rfl (by kernel_rfl) (by kernel_rfl) (by kernel_rfl) (by kernel_rfl) (fun w => by kernel_rfl) (fun _ => rfl) (fun _ _ _ h => h) ?_
           refine cd (i:=17) (v:=.bool false) rfl (by kernel_rfl) (by kernel_rfl) (by kernel_rfl) (by kernel_rfl) (fun w => by kernel_rfl) (fun _ => rfl) (fun _ _ _ h => h) ?_
           refine cd (i:=18) (v:=.func (.yield l) #[] #[]) rfl (by kernel_rfl) (by kernel_rfl) (by kernel_rfl) (by kernel_rfl) (fun w => by kernel_rfl) (fun _ => rfl) (fun _ _ _ h => h) ?_
           refine cd (i:=19) (v:=.int .i64 (8 + (b.size:Int))) rfl (by kernel_rfl) (by kernel_rfl) (by kernel_rfl) (by kernel_rfl) (fun w => by kernel_rfl) (fun _ => rfl) (fun _ _ _ h => h) ?_
           refine cd (i:=20) (v:=.int .i64 (16 + (b.size:Int))) rfl (by kernel_rfl) (by kernel_rfl) (by kernel_rfl) (by kernel_rfl) (fun w => by go_simp <;> exact hw8) (fun _ => rfl) (fun _ _ _ h => h) ?_
           refine cd (i:=21) (v:=.string b) rfl (by kernel_rfl) (by kernel_rfl) (by kernel_rfl) (by kernel_rfl) (fun w => by kernel_rfl) (fun _ => rfl) (fun _ _ _ h => h) ?_
           have hj6:=hJ _ _ _ hj (.of_below h6.below)
           obtain ⟨fn,tmps,assign,body,hy,hR⟩:=hY pre (b,16 + b.size) _ hj6 hpx
           simp only [zbkw,Int.natCast_add,Int.cast_ofNat_Int] at hy
           refine wpAnyIn_ready (rs:=[22]) (by kernel_rfl) (by simp) (AllReadyIn.cons rfl (fun K hK => ?_) AllReadyIn.nil)
           go_simp
           refine hR.mono ?_
           rintro e W7 ⟨rfl,hj7,hb7⟩
           refine hK _ _ ?_
           clear hK K
           refine cd (i:=23) (v:=.bool false) rfl (by kernel_rfl) (by kernel_rfl) (by kernel_rfl) (by kernel_rfl) (fun w => by kernel_rfl) (fun _ => rfl) (fun _ _ _ h => h) ?_
           refine cd (i:=24) (v:=.bool false) rfl (by kernel_rfl) (by kernel_rfl) (by kernel_rfl) (by kernel_rfl) (fun w => by kernel_rfl) (fun _ => rfl) (fun _ _ _ h => h) ?_
           refine wpAnyIn_done (by kernel_rfl) ⟨by kernel_rfl,hj7,hb7.trans (Boxed.through hb h6)⟩ _
         · go_simp
           gi_at_call 16
           refine (callsIn_wide.2 (zbmv hbs _)).mono ?_
           rintro e W6 ⟨rfl,hb6⟩
           have h6:=h5.later hb6
           refine hK _ _ ?_
           clear hK K
           have hc6:=(Boxed.through hb h6).cell
           refine wpAnyIn_ready (rs:=[8]) (by kernel_rfl) (by simp) (AllReadyIn.cons rfl (fun K hK => ?_) AllReadyIn.nil)
           go_simp
           refine hK _ _ ?_
           clear hK K
           refine cd (i:=12) (v:=.string (qy b)) rfl (by kernel_rfl) (by kernel_rfl) (by kernel_rfl) (by kernel_rfl) (fun w => by go_simp) (fun _ => rfl) (fun _ _ _ h => h) ?_
           refine cd (i:=15) (v:=.bool false) rfl (by kernel_rfl) (by kernel_rfl) (by kernel_rfl) (by kernel_rfl) (fun w => by go_simp) (fun _ => rfl) (fun _ _ _ h => h) ?_
           refine cd (i:=16) (v:=.bool false) rfl (by kernel_rfl) (by kernel_rfl) (by kernel_rfl) (by kernel_rfl) (fun w => by kernel_rfl) (fun _ => rfl) (fun _ _ _ h => h) ?_
           refine cd (i:=17) (v:=.bool false) rfl (by kernel_rfl) (by kernel_rfl) (by kernel_rfl) (by kernel_rfl) (fun w => by kernel_rfl) (fun _ => rfl) (fun _ _ _ h => h) ?_
           refine cd (i:=18) (v:=.func (.yield l) #[] #[]) rfl (by kernel_rfl) (by kernel_rfl) (by kernel_rfl) (by kernel_rfl) (fun w => by kernel_rfl) (fun _ => rfl) (fun _ _ _ h => h) ?_
           refine cd (i:=19) (v:=.int .i64 (8 + (b.size:Int))) rfl (by kernel_rfl) (by kernel_rfl) (by kernel_rfl) (by kernel_rfl) (fun w => by kernel_rfl) (fun _ => rfl) (fun _ _ _ h => h) ?_
           refine cd (i:=20) (v:=.int .i64 (16 + (b.size:Int))) rfl (by kernel_rfl) (by kernel_rfl) (by kernel_rfl) (by kernel_rfl) (fun w => by go_simp <;> exact hw8) (fun _ => rfl) (fun _ _ _ h => h) ?_
           refine cd (i:=21) (v:=.string b) rfl (by kernel_rfl) (by kernel_rfl) (by kernel_rfl) (by kernel_rfl) (fun w => by kernel_rfl) (fun _ => rfl) (fun _ _ _ h => h) ?_
           have hj6:=hJ _ _ _ hj (.of_below h6.below)
           obtain ⟨fn,tmps,assign,body,hy,hR⟩:=hY pre (b,16 + b.size) _ hj6 hpx
           simp only [zbkw,Int.natCast_add,Int.cast_ofNat_Int] at hy
           refine wpAnyIn_ready (rs:=[22]) (by kernel_rfl) (by simp) (AllReadyIn.cons rfl (fun K hK => ?_) AllReadyIn.nil)
           go_simp
           refine hR.mono ?_
           rintro e W7 ⟨rfl,hj7,hb7⟩
           refine hK _ _ ?_
           clear hK K
           refine cd (i:=23) (v:=.bool false) rfl (by kernel_rfl) (by kernel_rfl) (by kernel_rfl) (by kernel_rfl) (fun w => by kernel_rfl) (fun _ => rfl) (fun _ _ _ h => h) ?_
           refine cd (i:=24) (v:=.bool false) rfl (by kernel_rfl) (by kernel_rfl) (by kernel_rfl) (by kernel_rfl) (fun w => by kernel_rfl) (fun _ => rfl) (fun _ _ _ h => h) ?_
           refine wpAnyIn_done (by kernel_rfl) ⟨by kernel_rfl,hj7,hb7.trans (Boxed.through hb h6)⟩ _
        rintro e a W4 h4
        cases e with
        | normal =>
         obtain ⟨rfl,h4,hb4⟩:=h4
         have hc4:=hb4.cell
         have hf4:=hb4.frozen
         gi_wp2
         have hx2:=HX.out
         have hsz:=HSZ.out
         have hr:(s'.extract (16 + b.size) s'.size).size = s'.size - (16 + b.size):=by rw [ByteArray.size_extract]; omega
         refine ⟨⟨_,k,_,hx2,by omega,by omega,hb4.set _,hJ _ _ _ h4 (.set B _ _)⟩,?_⟩
         have e1:=(hb4.set (.string (s'.extract (16 + b.size) s'.size))).cell
         unfold zbd0
         rw [e1,hc]
         simp only [hr]
         omega
        | _ => exact h4.elim
      · have hsz:=HSZ.out
        have hle:16 + (b.size:Int) ≤ s'.size:=by omega
        have hl0:(0:Int) ≤ 8 + (b.size:Int):=by omega
        have hl1:(8:Int) + (b.size:Int) ≤ 16 + (b.size:Int):=by omega
        have hnl:¬ (t.size:Int) < 8:=by omega
        have hl2:(8:Int) ≤ t.size:=by omega
        clear hsz
        have hst:ia s' = none:=by unfold ia; rw [hw]; exact if_neg fun q => heq q.2
        have hneq:¬ (s'.extract (8 + b.size) (16 + b.size)).toList = (qy b).toList:=fun q => heq (zbjo q)
        refine wpIn_mono (Q:=Exit.then (fun a w => a = { tmps:=#[.func (.yield l) #[] #[],.pointer (some ⟨B,0,none⟩),undef,p,.string b,.int .i64 (8 + (b.size:Int)),.string s',p,p,.string b,.string s',.int .i64 (s'.size:Nat),p,.int .i64 (t.size:Nat),.int .i64 (8 + (b.size:Int)),p,.bool false,.bool false,p,.int .i64 (t.size:Nat),.bool false,.bool false,.bool false,.string s',.int .i64 (8 + (b.size:Int)),.int .i64 (8 + (b.size:Int)),.int .i64 (16 + (b.size:Int)),.string (s'.extract (8 + b.size) (16 + b.size)),.string b,.string (qy b),.bool true,.bool true,.bool true,undef,undef,undef,undef,undef,undef,.bool true,u40,u41,u42,u43],defers:=[] } ∧ RdS wr p (rτ ⟨t,false⟩) w) fun _ _ _ => False) ?_ ?_
        ·
         refine wpIn_region_any hmx ?_
         change wpAnyIn _ _ _ _ _ _ _ _ _ (World.drew _)
         refine cd (i:=0) (v:=p) rfl (by kernel_rfl) (by kernel_rfl) (by kernel_rfl) (by kernel_rfl) (fun w => by kernel_rfl) (fun _ => rfl) (fun _ _ _ h => h) ?_
         refine wpAnyIn_ready (rs:=[1]) (by kernel_rfl) (by simp) (AllReadyIn.cons rfl (fun K hK => ?_) AllReadyIn.nil)
         go_simp
         gi_at_call 34
         refine (callsIn_wide.2 (zbcu h3.drew)).mono ?_
         rintro e W4 ⟨rfl,h4⟩
         refine hK _ _ ?_
         clear hK K
         refine cd (i:=2) (v:=.bool false) rfl (by kernel_rfl) (by kernel_rfl) (by kernel_rfl) (by kernel_rfl) (fun w => by kernel_rfl) (fun _ => rfl) (fun _ _ _ h => h) ?_
         refine cd (i:=3) (v:=p) rfl (by kernel_rfl) (by kernel_rfl) (by kernel_rfl) (by kernel_rfl) (fun w => by kernel_rfl) (fun _ => rfl) (fun _ _ _ h => h) ?_
         refine wpAnyIn_ready (rs:=[4]) (by kernel_rfl) (by simp) (AllReadyIn.cons rfl (fun K hK => ?_) AllReadyIn.nil)
         go_simp
         gi_at_call 33
         refine (callsIn_wide.2 (zbft h4)).mono ?_
         rintro e W5 ⟨rfl,h5⟩
         refine hK _ _ ?_
         clear hK K
         refine cd (i:=5) (v:=.bool false) rfl (by kernel_rfl) (by kernel_rfl) (by kernel_rfl) (by kernel_rfl) (fun w => by go_simp) (fun _ => rfl) (fun _ _ _ h => h) ?_
         refine cd (i:=6) (v:=.bool false) rfl (by kernel_rfl) (by kernel_rfl) (by kernel_rfl) (by kernel_rfl) (fun w => by kernel_rfl) (fun _ => rfl) (fun _ _ _ h => h) ?_
         refine cd (i:=7) (v:=.bool false) rfl (by kernel_rfl) (by kernel_rfl) (by kernel_rfl) (by kernel_rfl) (fun w => by kernel_rfl) (fun _ => rfl) (fun _ _ _ h => h) ?_
         refine cd (i:=9) (v:=.int .i64 (8 + (b.size:Int))) rfl (by kernel_rfl) (by kernel_rfl) (by kernel_rfl) (by kernel_rfl) (fun w => by kernel_rfl) (fun _ => rfl) (fun _ _ _ h => h) ?_
         refine cd (i:=10) (v:=.int .i64 (8 + (b.size:Int))) rfl (by kernel_rfl) (by kernel_rfl) (by kernel_rfl) (by kernel_rfl) (fun w => by kernel_rfl) (fun _ => rfl) (fun _ _ _ h => h) ?_
         refine cd (i:=11) (v:=.int .i64 (16 + (b.size:Int))) rfl (by kernel_rfl) (by kernel_rfl) (by kernel_rfl) (by kernel_rfl) (fun w => by go_simp <;> exact hw8) (fun _ => rfl) (fun _ _ _ h => h) ?_
         refine cd (i:=13) (v:=.string b) rfl (by kernel_rfl) (by kernel_rfl) (by kernel_rfl) (by kernel_rfl) (fun w => by kernel_rfl) (fun _ => rfl) (fun _ _ _ h => h) ?_
         have hc5:=(Boxed.through hb h5).cell
         refine wpAnyIn_ready (rs:=[8,14]) (by kernel_rfl) (by simp) (AllReadyIn.cons rfl (fun K hK => ?_) (AllReadyIn.cons rfl (fun K hK => ?_) AllReadyIn.nil))
         · go_simp
           refine hK _ _ ?_
           clear hK K
           refine cd (i:=12) (v:=.string (s'.extract (8 + b.size) (16 + b.size))) rfl (by kernel_rfl) (by kernel_rfl) (by kernel_rfl) (by kernel_rfl) (fun w => by go_simp) (fun _ => rfl) (fun _ _ _ h => h) ?_
           refine wpAnyIn_ready (rs:=[14]) (by kernel_rfl) (by simp) (AllReadyIn.cons rfl (fun K hK => ?_) AllReadyIn.nil)
           go_simp
           gi_at_call 16
           refine (callsIn_wide.2 (zbmv hbs _)).mono ?_
           rintro e W6 ⟨rfl,hb6⟩
           have h6:=h5.later hb6
           refine hK _ _ ?_
           clear hK K
           refine cd (i:=15) (v:=.bool true) rfl (by kernel_rfl) (by kernel_rfl) (by kernel_rfl) (by kernel_rfl) (fun w => by go_simp <;> exact hneq) (fun _ => rfl) (fun _ _ _ h => h) ?_
           refine cd (i:=16) (v:=.bool true) rfl (by kernel_rfl) (by kernel_rfl) (by kernel_rfl) (by kernel_rfl) (fun w => by kernel_rfl) (fun _ => rfl) (fun _ _ _ h => h) ?_
           refine cd (i:=17) (v:=.bool true) rfl (by kernel_rfl) (by kernel_rfl) (by kernel_rfl) (by kernel_rfl) (fun w => by kernel_rfl) (fun _ => rfl) (fun _ _ _ h => h) ?_
           refine kw (i:=18) rfl (by kernel_rfl) (by kernel_rfl) (by kernel_rfl) (by kernel_rfl) (fun _ => rfl) (fun _ _ _ h => h) ?_
           refine kw (i:=19) rfl (by kernel_rfl) (by kernel_rfl) (by kernel_rfl) (by kernel_rfl) (fun _ => rfl) (fun _ _ _ h => h) ?_
           refine kw (i:=20) rfl (by kernel_rfl) (by kernel_rfl) (by kernel_rfl) (by kernel_rfl) (fun _ => rfl) (fun _ _ _ h => h) ?_
           refine kw (i:=21) rfl (by kernel_rfl) (by kernel_rfl) (by kernel_rfl) (by kernel_rfl) (fun _ => rfl) (fun _ _ _ h => h) ?_
           refine ut (i:=22) (by kernel_rfl) rfl (by kernel_rfl) ?_
           refine kw (i:=23) rfl (by kernel_rfl) (by kernel_rfl) (by kernel_rfl) (by kernel_rfl) (fun _ => rfl) (fun _ _ _ h => h) ?_
           refine cd (i:=24) (v:=.bool true) rfl (by kernel_rfl) (by kernel_rfl) (by kernel_rfl) (by kernel_rfl) (fun w => by kernel_rfl) (fun _ => rfl) (fun _ _ _ h => h) ?_
           refine wpAnyIn_done (by kernel_rfl) ⟨by kernel_rfl,h6⟩ _
         · go_simp
           gi_at_call 16
           refine (callsIn_wide.2 (zbmv hbs _)).mono ?_
           rintro e W6 ⟨rfl,hb6⟩
           have h6:=h5.later hb6
           refine hK _ _ ?_
           clear hK K
           have hc6:=(Boxed.through hb h6).cell
           refine wpAnyIn_ready (rs:=[8]) (by kernel_rfl) (by simp) (AllReadyIn.cons rfl (fun K hK => ?_) AllReadyIn.nil)
           go_simp
           refine hK _ _ ?_
           clear hK K
           refine cd (i:=12) (v:=.string (s'.extract (8 + b.size) (16 + b.size))) rfl (by kernel_rfl) (by kernel_rfl) (by kernel_rfl) (by kernel_rfl) (fun w => by go_simp) (fun _ => rfl) (fun _ _ _ h => h) ?_
           refine cd (i:=15) (v:=.bool true) rfl (by kernel_rfl) (by kernel_rfl) (by kernel_rfl) (by kernel_rfl) (fun w => by go_simp <;> exact hneq) (fun _ => rfl) (fun _ _ _ h => h) ?_
           refine cd (i:=16) (v:=.bool true) rfl (by kernel_rfl) (by kernel_rfl) (by kernel_rfl) (by kernel_rfl) (fun w => by kernel_rfl) (fun _ => rfl) (fun _ _ _ h => h) ?_
           refine cd (i:=17) (v:=.bool true) rfl (by kernel_rfl) (by kernel_rfl) (by kernel_rfl) (by kernel_rfl) (fun w => by kernel_rfl) (fun _ => rfl) (fun _ _ _ h => h) ?_
           refine kw (i:=18) rfl (by kernel_rfl) (by kernel_rfl) (by kernel_rfl) (by kernel_rfl) (fun _ => rfl) (fun _ _ _ h => h) ?_
           refine kw (i:=19) rfl (by kernel_rfl) (by kernel_rfl) (by kernel_rfl) (by kernel_rfl) (fun _ => rfl) (fun _ _ _ h => h) ?_
           refine kw (i:=20) rfl (by kernel_rfl) (by kernel_rfl) (by kernel_rfl) (by kernel_rfl) (fun _ => rfl) (fun _ _ _ h => h) ?_
           refine kw (i:=21) rfl (by kernel_rfl) (by kernel_rfl) (by kernel_rfl) (by kernel_rfl) (fun _ => rfl) (fun _ _ _ h => h) ?_
           refine ut (i:=22) (by kernel_rfl) rfl (by kernel_rfl) ?_
           refine kw (i:=23) rfl (by kernel_rfl) (by kernel_rfl) (by kernel_rfl) (by kernel_rfl) (fun _ => rfl) (fun _ _ _ h => h) ?_
           refine cd (i:=24) (v:=.bool true) rfl (by kernel_rfl) (by kernel_rfl) (by kernel_rfl) (by kernel_rfl) (fun w => by kernel_rfl) (fun _ => rfl) (fun _ _ _ h => h) ?_
           refine wpAnyIn_done (by kernel_rfl) ⟨by kernel_rfl,h6⟩ _
        rintro e a W4 h4
        cases e with
        | normal =>
         obtain ⟨rfl,h4⟩:=h4
         gi_wp2
         refine bodyPost_ret (results_none rfl _ _ _) rfl ?_
         exact ⟨⟨_,rfl⟩,hend hst ▸ hJ _ _ _ hj (.of_below h4.below)⟩
        | _ => exact h4.elim
    · have hst:ia s' = none:=by unfold ia; rw [hw]; exact if_neg fun q => h8 q.1
      have h8i:(t.size:Int) < 8:=by omega
      refine wpIn_mono (Q:=Exit.then (fun a w => a = { tmps:=#[.func (.yield l) #[] #[],.pointer (some ⟨B,0,none⟩),undef,p,.string b,.int .i64 (8 + (b.size:Int)),.string s',p,p,.string b,.string s',.int .i64 (s'.size:Nat),p,.int .i64 (t.size:Nat),.int .i64 (8 + (b.size:Int)),p,.bool false,.bool false,p,.int .i64 (t.size:Nat),.bool true,.bool true,.bool true,undef,undef,undef,undef,undef,undef,undef,undef,.bool true,.bool true,undef,undef,undef,undef,undef,undef,.bool true,u40,u41,u42,u43],defers:=[] } ∧ RdS wr p (rτ ⟨t,false⟩) w) fun _ _ _ => False) ?_ ?_
      ·
       refine wpIn_region_any hmx ?_
       change wpAnyIn _ _ _ _ _ _ _ _ _ (World.drew _)
       refine cd (i:=0) (v:=p) rfl (by kernel_rfl) (by kernel_rfl) (by kernel_rfl) (by kernel_rfl) (fun w => by kernel_rfl) (fun _ => rfl) (fun _ _ _ h => h) ?_
       refine wpAnyIn_ready (rs:=[1]) (by kernel_rfl) (by simp) (AllReadyIn.cons rfl (fun K hK => ?_) AllReadyIn.nil)
       go_simp
       gi_at_call 34
       refine (callsIn_wide.2 (zbcu h3.drew)).mono ?_
       rintro e W4 ⟨rfl,h4⟩
       refine hK _ _ ?_
       clear hK K
       refine cd (i:=2) (v:=.bool false) rfl (by kernel_rfl) (by kernel_rfl) (by kernel_rfl) (by kernel_rfl) (fun w => by kernel_rfl) (fun _ => rfl) (fun _ _ _ h => h) ?_
       refine cd (i:=3) (v:=p) rfl (by kernel_rfl) (by kernel_rfl) (by kernel_rfl) (by kernel_rfl) (fun w => by kernel_rfl) (fun _ => rfl) (fun _ _ _ h => h) ?_
       refine wpAnyIn_ready (rs:=[4]) (by kernel_rfl) (by simp) (AllReadyIn.cons rfl (fun K hK => ?_) AllReadyIn.nil)
       go_simp
       gi_at_call 33
       refine (callsIn_wide.2 (zbft h4)).mono ?_
       rintro e W5 ⟨rfl,h5⟩
       refine hK _ _ ?_
       clear hK K
       refine cd (i:=5) (v:=.bool true) rfl (by kernel_rfl) (by kernel_rfl) (by kernel_rfl) (by kernel_rfl) (fun w => by go_simp) (fun _ => rfl) (fun _ _ _ h => h) ?_
       refine cd (i:=6) (v:=.bool true) rfl (by kernel_rfl) (by kernel_rfl) (by kernel_rfl) (by kernel_rfl) (fun w => by kernel_rfl) (fun _ => rfl) (fun _ _ _ h => h) ?_
       refine cd (i:=7) (v:=.bool true) rfl (by kernel_rfl) (by kernel_rfl) (by kernel_rfl) (by kernel_rfl) (fun w => by kernel_rfl) (fun _ => rfl) (fun _ _ _ h => h) ?_
       refine kw (i:=8) rfl (by kernel_rfl) (by kernel_rfl) (by kernel_rfl) (by kernel_rfl) (fun _ => rfl) (fun _ _ _ h => h) ?_
       refine kw (i:=9) rfl (by kernel_rfl) (by kernel_rfl) (by kernel_rfl) (by kernel_rfl) (fun _ => rfl) (fun _ _ _ h => h) ?_
       refine kw (i:=10) rfl (by kernel_rfl) (by kernel_rfl) (by kernel_rfl) (by kernel_rfl) (fun _ => rfl) (fun _ _ _ h => h) ?_
       refine kw (i:=11) rfl (by kernel_rfl) (by kernel_rfl) (by kernel_rfl) (by kernel_rfl) (fun _ => rfl) (fun _ _ _ h => h) ?_
       refine kw (i:=12) rfl (by kernel_rfl) (by kernel_rfl) (by kernel_rfl) (by kernel_rfl) (fun _ => rfl) (fun _ _ _ h => h) ?_
       refine kw (i:=13) rfl (by kernel_rfl) (by kernel_rfl) (by kernel_rfl) (by kernel_rfl) (fun _ => rfl) (fun _ _ _ h => h) ?_
       refine ut (i:=14) (by kernel_rfl) rfl (by kernel_rfl) ?_
       refine kw (i:=15) rfl (by kernel_rfl) (by kernel_rfl) (by kernel_rfl) (by kernel_rfl) (fun _ => rfl) (fun _ _ _ h => h) ?_
       refine cd (i:=16) (v:=.bool true) rfl (by kernel_rfl) (by kernel_rfl) (by kernel_rfl) (by kernel_rfl) (fun w => by kernel_rfl) (fun _ => rfl) (fun _ _ _ h => h) ?_
       refine cd (i:=17) (v:=.bool true) rfl (by kernel_rfl) (by kernel_rfl) (by kernel_rfl) (by kernel_rfl) (fun w => by kernel_rfl) (fun _ => rfl) (fun _ _ _ h => h) ?_
       refine kw (i:=18) rfl (by kernel_rfl) (by kernel_rfl) (by kernel_rfl) (by kernel_rfl) (fun _ => rfl) (fun _ _ _ h => h) ?_
       refine kw (i:=19) rfl (by kernel_rfl) (by kernel_rfl) (by kernel_rfl) (by kernel_rfl) (fun _ => rfl) (fun _ _ _ h => h) ?_
       refine kw (i:=20) rfl (by kernel_rfl) (by kernel_rfl) (by kernel_rfl) (by kernel_rfl) (fun _ => rfl) (fun _ _ _ h => h) ?_
       refine kw (i:=21) rfl (by kernel_rfl) (by kernel_rfl) (by kernel_rfl) (by kernel_rfl) (fun _ => rfl) (fun _ _ _ h => h) ?_
       refine ut (i:=22) (by kernel_rfl) rfl (by kernel_rfl) ?_
       refine kw (i:=23) rfl (by kernel_rfl) (by kernel_rfl) (by kernel_rfl) (by kernel_rfl) (fun _ => rfl) (fun _ _ _ h => h) ?_
       refine cd (i:=24) (v:=.bool true) rfl (by kernel_rfl) (by kernel_rfl) (by kernel_rfl) (by kernel_rfl) (fun w => by kernel_rfl) (fun _ => rfl) (fun _ _ _ h => h) ?_
       refine wpAnyIn_done (by kernel_rfl) ⟨by kernel_rfl,h5⟩ _
      rintro e a W4 h4
      cases e with
      | normal =>
       obtain ⟨rfl,h4⟩:=h4
       gi_wp2
       refine bodyPost_ret (results_none rfl _ _ _) rfl ?_
       exact ⟨⟨_,rfl⟩,hend hst ▸ hJ _ _ _ hj (.of_below h4.below)⟩
      | _ => exact h4.elim
   | _ => exact h3.elim
end Go.Proofs.Ytgkkienmocpnbaa.Wl
namespace Go.Proofs.Ytgkkienmocpnbaa.Wl
open Go Go.RowKit Sh Ic
attribute [local go_sem] Oper.semAt_some vj vl
theorem zbb7 (s:ByteArray) (w:World) (n:Nat):CallsIn Fence.wide n Try.prog 19 #[.string s] w fun e w' => e = .returned (.func (.func 30) #[] #[.pointer (some ⟨w.heap.size,0,none⟩)]) ∧ w' = w.alloc (.cells #[.string s] 9):=by
 refine callsIn_of_wp Try.func19 rfl trivial ?_ rfl
 simp only [Try.ntmps19,List.size_toArray,List.length_cons,List.length_nil,Nat.reduceAdd,Nat.reduceSub,Array.replicate_succ,Array.replicate_zero,List.push_toArray,List.append_toArray,List.nil_append,List.cons_append]
 gi_wp2
 go_ret
 exact ⟨rfl,rfl⟩
theorem zbqn:(Try.prog.info? 9).map (fun i => (i.zero,i.size,i.bytes)) = some (some (.string .empty),1,16):=by kernel_rfl
def bw (xs:List (ByteArray × Nat)):Nat:=(xs.map Prod.snd).sum
theorem zbt7 (xs:List (ByteArray × Nat)) (x:ByteArray × Nat):bw (xs ++ [x]) = bw xs + x.2:=by simp [bw]
theorem zbaa {W:World} {B D:Nat} {t:TypeId} {v:Value} (h:Boxed W B t v) (hD:W.heap[D]? = some (.deferred (some []))):Boxed (W.putObj D (.deferred none)) B t v :=
 h.kept (grownBy_putObj' W D _) fun e => by
  injection e with e
  subst e
  rw [show W.heap[B]? = _ from h] at hD
  cases hD
theorem zbuo {W:World} {B D:Nat} {t:TypeId} {v:Value} (h:Boxed W B t v) (hD:W.drew.heap[D]? = some (.deferred (some []))):Boxed (W.drew.putObj D (.deferred none)) B t v:=zbaa (W:=W.drew) h hD
theorem zb7o {W:World} {base size k D:Nat} {e:TypeId} {v:Value} {xs:List Value} (h:W.ownsRow base e size v k xs) (hD:W.drew.heap[D]? = some (.deferred (some []))):(W.drew.putObj D (.deferred none)).ownsRow base e size v k xs:=ownsRow_putObj (W:=W.drew) h (.deferred none) hD rfl
def Inv (w:World) (pre:List (ByteArray × Nat)) (W:World):Prop :=
 (∃ v,Boxed W w.heap.size 22 v ∧ W.ownsRow w.heap.size 9 1 v pre.length (pre.map fun x => .string x.1) ∧ v.ownBlock ≠ some (w.heap.size + 2)) ∧ Boxed W (w.heap.size + 1) 3 (.int .i64 (bw pre:Nat)) ∧ Below w.heap.size w W ∧ w.heap.size + 3 ≤ W.heap.size
theorem zbgq {n₀ B:Nat} {W W':World} {base size k:Nat} {e:TypeId} {v:Value} {xs:List Value} (h:W.ownsRow base e size v k xs) (hb:v.ownBlock ≠ some B) (ha:Asc n₀ B W W'):W'.ownsRow base e size v k xs:=by
 obtain ⟨h1,h2⟩:=h
 refine ⟨h1,?_⟩
 rcases h2 with h2 | ⟨g,cap,cur,rfl,h3,h4,h5⟩
 · exact .inl h2
 · exact .inr ⟨g,cap,cur,rfl,h3,ha.cells g _ h4 rfl (fun q => hb (by rw [← q]; rfl)),h5⟩
theorem Inv.sta (w:World):Sta w.heap.size (w.heap.size + 2) (Inv w):=by
 rintro ys W W' ⟨⟨v,h1,h2,h3⟩,h4,h5,h6⟩ ha
 exact ⟨⟨v,ha.cells _ _ h1 rfl (by omega),zbgq h2 h3 ha,h3⟩,ha.cells _ _ h4 rfl (by omega),h5.trans ha.below,Nat.le_trans h6 ha.below.size⟩
theorem dp:∀ (k:Nat) (s:ByteArray),bw (vu k s) ≤ s.size ∧ (vu k s).length ≤ s.size
 | 0,s => ⟨Nat.zero_le _,Nat.zero_le _⟩
 | k + 1,s => by
  unfold vu
  cases h:ia s with
  | none => exact ⟨Nat.zero_le _,Nat.zero_le _⟩
  | some x =>
   have hx:x.2.1 = 16 + x.1.size ∧ x.2.2.size = s.size - (16 + x.1.size) ∧ 16 + x.1.size ≤ s.size:=by
    unfold ia at h
    cases ht:xo s with
    | none => rw [ht] at h; cases h
    | some y =>
     rw [ht] at h
     obtain ⟨b,t⟩:=y
     obtain ⟨_,hsz,_,_,_⟩:=text_some ht
     simp only [Option.bind_some] at h
     split at h
     · rename_i hc
       simp only [Option.some.injEq] at h
       subst h
       have:=hc.1
       exact ⟨rfl,by simp only; rw [ByteArray.size_extract]; omega,by simp only; omega⟩
     · cases h
   obtain ⟨h1,h2⟩:=dp k x.2.2
   obtain ⟨e1,e2,e3⟩:=hx
   have:bw ((x.1,x.2.1) :: vu k x.2.2) = x.2.1 + bw (vu k x.2.2):=by simp [bw]
   exact ⟨by simp only; omega,by simp only [List.length_cons]; omega⟩
theorem zbgv {pre xs:List (ByteArray × Nat)} (h:pre <+: xs):bw pre ≤ bw xs:=by
 obtain ⟨t,rfl⟩:=h
 simp [bw]
set_option maxRecDepth 100000 in
set_option maxHeartbeats 4000000 in
theorem scanW (s:ByteArray) (hs:s.size ≤ 1000000000) (w:World):Calls Try.prog 9 #[.string s] w fun e W' => ∃ v,e = .returned (.tuple #[v,.int .i64 (zbio s:Nat)]) ∧ Below w.heap.size w W' ∧ W'.ownsRow w.heap.size 9 1 v (zbbj s).length ((zbbj s).map Value.string):=by
 refine (callsIn_wide (n:=5)).1 ?_
 obtain ⟨i0,hi,hz0,hz1,hz2⟩:=info_parts zbqn
 have hu:Try.prog.underlying 22 = some (.slice 9):=by kernel_rfl
 have hmx:Try.prog.follows .mixedOrders = true:=by kernel_rfl
 refine callsIn_of_wp_marks Try.func9 rfl trivial ?_ rfl
 simp only [Try.ntmps9,List.size_toArray,List.length_cons,List.length_nil,Nat.reduceAdd,Nat.reduceSub,Array.replicate_succ,Array.replicate_zero,List.push_toArray,List.append_toArray,List.nil_append,List.cons_append]
 gi_wp2_with (gi_at_call 19; refine (zbb7 s _ _).mono ?_; rintro e w' ⟨rfl,rfl⟩)
 have bO:=Boxed.new w 22 (.slice none 0 0)
 have bG:=Boxed.new (w.alloc (.cells #[.slice none 0 0] 22)) 3 (.int .i64 0)
 have bS:=Boxed.new ((w.alloc (.cells #[.slice none 0 0] 22)).alloc (.cells #[.int .i64 0] 3)) 9 (.string s)
 rw [World.size_alloc] at bG
 rw [World.size_alloc,World.size_alloc] at bS
 have hB0:Below w.heap.size w (((w.alloc (.cells #[.slice none 0 0] 22)).alloc (.cells #[.int .i64 0] 3)).alloc (.cells #[.string s] 9)):=(((Below.refl _ w).alloc (Nat.le_refl _) _).alloc (by simp) _).alloc (by simp; omega) _
 refine zcca (n₀:=w.heap.size) (B:=w.heap.size + 2) (T:=9) (s:=.string s) (encs:=zbkw) (xs:=vu s.size s) rfl (by omega) (gf:=30) rfl trivial (enters_of Try.func30 (by kernel_rfl) rfl)
  (fun l J W hB hJ hY h0 => j5 _ (by omega) (w.heap.size + 2) l s hs J W hB hJ hY h0) bS (by omega) (fun _ => rfl) (Inv w) (Inv.sta w)
  ⟨⟨_,(bO.alloc _).alloc _,World.ownsRow_nil _ _ _ _,by simp [Value.ownBlock]⟩,bG.alloc _,hB0,by simp⟩
  (fun x => { tmps:=#[.string s,undef,.pointer (some ⟨w.heap.size,0,none⟩),.pointer (some ⟨w.heap.size + 1,0,none⟩),.int .i64 (x.2:Nat),.string x.1,.string s,.func (.func 30) #[] #[.pointer (some ⟨w.heap.size + 1 + 1,0,none⟩)],.int .i64 (x.2:Nat),.string x.1,undef,undef,undef,undef,undef,undef,undef,undef,undef],defers:=[] }) ?assign ?body ?done
 case assign =>
  intro l x W K hK
  dsimp only [zbkw]
  gi_wp2
  exact hK
 case body =>
  rintro l pre x W ⟨⟨v,hv,hrow,hne⟩,hg,hB,hsz⟩ hpx
  have hlen:(pre ++ [x]).length ≤ s.size:=Nat.le_trans (hpx.length_le) (dp _ _).2
  rw [List.length_append] at hlen
  have hlen:pre.length + 1 ≤ s.size:=hlen
  have hsum:bw (pre ++ [x]) ≤ s.size:=Nat.le_trans (zbgv hpx) (dp _ _).1
  rw [zbt7] at hsum
  have hadd:IntKind.i64.wrap (((bw pre:Nat):Int) + ((x.2:Nat):Int)) = ((bw pre:Nat):Int) + ((x.2:Nat):Int):=w64 (by omega) (by omega)
  have hc:=hv.cell
  have hgl:=hg.lt
  have hmx1:pre.length + 1 ≤ maxLen:=by unfold maxLen; omega
  have hmx2:w.heap.size ≤ (W.alloc (.cells #[.string x.1] 9)).heap.size:=by have:=hB.size; simp; omega
  gi_wp2_with (gi_at_builtin; refine wpListIn_append_own_at _ rfl _ _ 22 rfl w.heap.size 9 i0 (.string .empty) 1 16 hu hi hz0 hz1 hz2 rfl (by decide) _ _ _ rfl (hrow.alloc _) ⟨W.heap.size,0,none⟩ 1 1 [.string x.1] rfl rfl (cell_one_new _ _ _) (by simp [Value.oneCell']) (by exact hmx1) (by omega) (by exact hmx2) ?_; intro v' w1 hown' hgrow _ hat; obtain ⟨g',cap',rfl⟩:=ownsRow_succ hown'; obtain ⟨hv1,hv2,hr2,hk2,hb2⟩:=hv.appended (by decide) hrow hB.size (Nat.le_refl _) hown' hgrow; have hc1:=hv1.cell; have hf1:=hv1.frozen; have hg1:Boxed w1 (w.heap.size + 1) 3 (.int .i64 (bw pre:Nat)):=(hg.alloc (.cells #[.string x.1] 9)).kept hgrow (hg.not_row (e:=9) (by decide) hrow); have hg2:=hg1.other (B':=w.heap.size) (Nat.succ_ne_self _) (.slice (some ⟨g',0,none⟩) (pre.length + 1) cap'); have hgc:=hg2.cell; have hgf:=hg2.frozen)
  refine ⟨hk2.trans (.setCell _ _ _),?_,⟨_,hv2.other (Nat.ne_of_lt (Nat.lt_succ_self _)) _,?_,?_⟩,?_,hB.trans (hb2.setCell (p:=⟨w.heap.size + 1,0,none⟩) (Nat.le_succ _) _),?_⟩
  · have e1:w.heap.size + 2 < W.heap.size:=by omega
    refine (Below.heap_setCell _ _ _ _ (by simp)).trans ((Below.heap_setCell _ _ _ _ (by simp)).trans ((hgrow.block _ (by simp; omega) (fun q => hne q.symm)).trans (Below.heap_alloc _ _ _ e1)))
  · have:=hr2.kept (grownBy_setCell' _ (w.heap.size + 1) (.int .i64 (((bw pre:Nat):Int) + ((x.2:Nat):Int)))) (.inr (hg2.not_row (e:=9) (by decide) hr2).symm)
    simpa using this
  · rcases hat with hat | hat
    · rw [hat]; exact hne
    · rw [hat]
      intro q
      injection q with q
      simp at q
      omega
  · have:=hg2.set (.int .i64 (((bw pre:Nat):Int) + ((x.2:Nat):Int)))
    rw [zbt7,Int.natCast_add]
    exact this
  · have:=hgrow.size
    simp only [World.size_alloc] at this
    show _ ≤ (World.setCell _ _ _).heap.size
    have e1:=(KeepsWalks.setCell (w1.setCell ⟨w.heap.size,0,none⟩ (.slice (some ⟨g',0,none⟩) (pre.length + 1) cap')) ⟨w.heap.size + 1,0,none⟩ (.int .i64 (((bw pre:Nat):Int) + ((x.2:Nat):Int)))).size
    have e2:=(KeepsWalks.setCell w1 ⟨w.heap.size,0,none⟩ (.slice (some ⟨g',0,none⟩) (pre.length + 1) cap')).size
    omega
 case done =>
  rintro D W hD ⟨⟨v,hv,hrow,hne⟩,hg,hB,hsz⟩ hK
  have hc:=hv.cell
  have hf:=hv.frozen
  have hgc:=hg.cell
  have hgf:=hg.frozen
  have hg3:∀ u,Boxed (W.drew.setCell ⟨w.heap.size,0,none⟩ u) (w.heap.size + 1) 3 (.int .i64 (bw (vu s.size s):Nat)):=fun u => Boxed.other (W:=W.drew) hg (Nat.succ_ne_self _) u
  have fin:∃ g cap,v = .slice g (vu s.size s).length cap:=by
   rcases hrow.2 with ⟨h1,h2⟩ | ⟨g,cap,_,h1,_⟩
   · exact ⟨none,0,by rw [h1,h2]⟩
   · exact ⟨_,_,h1⟩
  obtain ⟨g,cap,rfl⟩:=fin
  have hg4:=(hg3 (.slice g (vu s.size s).length cap)).cell
  have hg5:=(hg3 (.slice g (vu s.size s).length cap)).frozen
  have hK':((W.setCell ⟨w.heap.size,0,none⟩ (.slice g (vu s.size s).length cap)).setCell ⟨w.heap.size + 1,0,none⟩ (.int .i64 (bw (vu s.size s):Nat))).drew.heap[D]? = some (.deferred (some [])):=((KeepsOthers.setCell W _ _).trans (.setCell _ _ _)).same D _ hK rfl
  have b1:=zbuo (Boxed.other (hv.set (.slice g (vu s.size s).length cap)) (Nat.ne_of_lt (Nat.lt_succ_self w.heap.size)) (.int .i64 (bw (vu s.size s):Nat))) hK'
  have b2:=zbuo ((Boxed.other (W:=W) hg (Nat.succ_ne_self _) (.slice g (vu s.size s).length cap)).set (.int .i64 (bw (vu s.size s):Nat))) hK'
  gi_wp2
  gi_region_with_o (fail)
  all_goals gi_wp2
  all_goals
   refine ⟨by simp,.inl ⟨_,_,rfl,run_takeDeferred hK',?_⟩⟩
   refine ⟨.tuple #[.slice g (vu s.size s).length cap,.int .i64 (bw (vu s.size s):Nat)],?_,.slice g (vu s.size s).length cap,rfl,?_,?_⟩
   · have c1:=b1.cell
     have c2:=b2.cell
     simp [results,Try.f9,go_sem,c1,c2]
   · exact (((hB.setCell (p:=⟨w.heap.size,0,none⟩) (Nat.le_refl _) _).setCell (p:=⟨w.heap.size + 1,0,none⟩) (Nat.le_succ _) _).drew).trans (Asc.putObj (B:=0) _ hD hK' rfl).below
   · have r1:=hrow.kept (grownBy_setCell' W w.heap.size (.slice g (vu s.size s).length cap)) (.inr (hv.not_row (e:=9) (by decide) hrow).symm)
     have r2:=r1.kept (grownBy_setCell' _ (w.heap.size + 1) (.int .i64 (bw (vu s.size s):Nat))) (.inr ((Boxed.other (W:=W) hg (Nat.succ_ne_self _) _).not_row (e:=9) (by decide) r1).symm)
     have r3:=zb7o r2 hK'
     have e1:(zbbj s).length = (vu s.size s).length:=List.length_map ..
     have e2:(zbbj s).map Value.string = (vu s.size s).map fun x => .string x.1:=by rw [zbbj,List.map_map]; rfl
     rw [e1,e2]
     exact r3
end Go.Proofs.Ytgkkienmocpnbaa.Wl
namespace Go.Proofs.Ytgkkienmocpnbaa
open Go Go.RowKit Sh Ic
theorem zbm8 (s:ByteArray) (h:s.size ≤ 1000000000):gr s = some (zbbj s,(zbio s:Int)):=if_pos fun τ => Wl.texts_callT (T:=9) (by kernel_rfl) (fun w => Wl.scanW s h w) τ
open Go Go.RowKit Sh Ic
theorem zbnm (n k:Int) (hk:0 < k) (hk2:k < 9223372036854775808):j8 n k = some (n % k):=by
 unfold j8
 rw [if_pos (by omega)]
 have h1:=Int.emod_nonneg n (show k ≠ 0 by omega)
 have h2:=Int.emod_lt_of_pos n hk
 by_cases c:0 ≤ n
 · have e:Int.tmod n k = n % k:=Int.tmod_eq_emod_of_nonneg c
   rw [e,if_neg (by omega)]
 · have e:=Int.tmod_eq_emod (a:=n) (b:=k)
   by_cases d:n % k = 0
   · have:Int.tmod n k = 0:=by
      rw [e,d]
      have:k ∣ n:=Int.dvd_of_emod_eq_zero d
      simp [this]
     rw [this,d,if_neg (by decide)]
   · have nd:¬ k ∣ n:=fun h => d (Int.emod_eq_zero_of_dvd h)
     have e2:Int.tmod n k = n % k - k:=by
      rw [e,if_neg (fun h => h.elim c nd)]
      omega
     rw [e2,if_pos (by omega),w64 (by omega) (by omega)]
     congr 1
     omega
open Go Go.RowKit Sh Ic
def og (b:ByteArray):ByteArray:=fy b ++ qy b
theorem oa (b:ByteArray):(qy b).size = 8:=by unfold qy; rw [ByteArray.size_extract,zboa]; rfl
theorem eq (b:ByteArray):(og b).size = 16 + b.size:=by unfold og; rw [ByteArray.size_append,d7,oa]; omega
theorem nov {n:Nat} (h:n ≤ 1000000000):¬ (9223372036854775807 < (n:Int)):=by omega
theorem zbm7 (b:ByteArray) (h:b.size ≤ 1048576):mn b = some (og b):=by
 unfold mn
 rw [zbhe b (by omega),obz,Wl.seal_f b (by omega),obz,if_pos (nov (by rw [d7,oa]; omega))]
 rfl
theorem zcfk (n:Int):IntKind.u64.wrap n = n % 18446744073709551616:=by simp [IntKind.wrap,IntKind.bits,IntKind.signed]
theorem u8m (n:Int):IntKind.u8.wrap n = n % 256:=by simp [IntKind.wrap,IntKind.bits,IntKind.signed]
def zb57 (v:Int) (i:Nat):Int:=IntKind.u8.wrap (Int.fdiv (IntKind.u64.wrap v) (2 ^ (56 - 8 * i)))
theorem zbgr (v:Int) (i:Nat) (hi:i < 8):zb57 v i = br v i:=by
 rw [zbna]
 unfold zb57
 rw [u8m,zcfk,Int.fdiv_eq_ediv_of_nonneg _ (by exact Int.le_of_lt (Int.pow_pos (by decide)))]
 have hm:Nat.min (8 * (7 - i)) 64 = 56 - 8 * i:=by show min (8 * (7 - i)) 64 = _; omega
 rw [hm]
 match i,hi with
 | 0,_ => simp only [Nat.reduceMul,Nat.reduceSub,Nat.reducePow,Int.reducePow,Int.cast_ofNat_Int]; omega
 | 1,_ => simp only [Nat.reduceMul,Nat.reduceSub,Nat.reducePow,Int.reducePow,Int.cast_ofNat_Int]; omega
 | 2,_ => simp only [Nat.reduceMul,Nat.reduceSub,Nat.reducePow,Int.reducePow,Int.cast_ofNat_Int]; omega
 | 3,_ => simp only [Nat.reduceMul,Nat.reduceSub,Nat.reducePow,Int.reducePow,Int.cast_ofNat_Int]; omega
 | 4,_ => simp only [Nat.reduceMul,Nat.reduceSub,Nat.reducePow,Int.reducePow,Int.cast_ofNat_Int]; omega
 | 5,_ => simp only [Nat.reduceMul,Nat.reduceSub,Nat.reducePow,Int.reducePow,Int.cast_ofNat_Int]; omega
 | 6,_ => simp only [Nat.reduceMul,Nat.reduceSub,Nat.reducePow,Int.reducePow,Int.cast_ofNat_Int]; omega
 | 7,_ => simp only [Nat.reduceMul,Nat.reduceSub,Nat.reducePow,Int.reducePow,Int.cast_ofNat_Int]; omega
theorem qz (v:Int) (i:Nat) (hi:i < 8) (l:List Int) (hl:l.length ≤ 8):lq (IntKind.u64.wrap v) l (i:Int) = lq (IntKind.u64.wrap v) (l ++ [br v i]) ((i + 1:Nat):Int):=by
 have w1:IntKind.i64.wrap ((8:Int) * (i:Int)) = ((8 * i:Nat):Int):=by rw [w64 (by omega) (by omega)]; omega
 have w2:IntKind.i64.wrap ((56:Int) - ((8 * i:Nat):Int)) = ((56 - 8 * i:Nat):Int):=by rw [w64 (by omega) (by omega)]; omega
 rw [zbz2,ee,if_pos (by omega),w1,w2,zcfj _ (by omega),if_pos (by omega),if_pos (by omega),Int.toNat_natCast,zbkf _ (by omega),obz,LS.go,xz i (by omega)]
 rw [show IntKind.u8.wrap (Int.fdiv (IntKind.u64.wrap v) (2 ^ (56 - 8 * i))) = br v i from zbgr v i hi]
theorem zblk (v:Int):ms v = some (kg v):=by
 unfold ms
 have e:lq (IntKind.u64.wrap v) [] (0:Int) = some [br v 0,br v 1,br v 2,br v 3,br v 4,br v 5,br v 6,br v 7]:=by
  have e0:=qz v 0 (by decide) [] (by simp)
  have e1:=qz v 1 (by decide) [br v 0] (by simp)
  have e2:=qz v 2 (by decide) [br v 0,br v 1] (by simp)
  have e3:=qz v 3 (by decide) [br v 0,br v 1,br v 2] (by simp)
  have e4:=qz v 4 (by decide) [br v 0,br v 1,br v 2,br v 3] (by simp)
  have e5:=qz v 5 (by decide) [br v 0,br v 1,br v 2,br v 3,br v 4] (by simp)
  have e6:=qz v 6 (by decide) [br v 0,br v 1,br v 2,br v 3,br v 4,br v 5] (by simp)
  have e7:=qz v 7 (by decide) [br v 0,br v 1,br v 2,br v 3,br v 4,br v 5,br v 6] (by simp)
  refine (e0.trans (e1.trans (e2.trans (e3.trans (e4.trans (e5.trans (e6.trans (e7.trans ?_))))))))
  rw [zbz2,ee,if_neg (by decide),obz,LS.go]
  rfl
 rw [e,obz]
 rfl
open Go Go.RowKit Sh Ic
theorem yi {s b t:ByteArray} {n:Nat} (h:ia s = some (b,n,t)):n = 16 + b.size ∧ t = s.extract (16 + b.size) s.size ∧ 16 + b.size ≤ s.size ∧ b.size ≤ 1048576:=by
 unfold ia at h
 cases ht:xo s with
 | none => rw [ht] at h; cases h
 | some y =>
  rw [ht] at h
  obtain ⟨c,u⟩:=y
  obtain ⟨_,hsz,hm,_,_⟩:=Wl.text_some ht
  simp only [Option.bind_some] at h
  split at h
  · rename_i hc
    simp only [Option.some.injEq,Prod.mk.injEq] at h
    obtain ⟨rfl,rfl,rfl⟩:=h
    have:=hc.1
    exact ⟨rfl,rfl,by omega,hm⟩
  · cases h
def fj (s:ByteArray):List (ByteArray × Nat):=vu s.size s
theorem zbnw:∀ (k m:Nat) (s:ByteArray),s.size ≤ k → s.size ≤ m → vu k s = vu m s
 | 0,0,s,_,_ => rfl
 | 0,m + 1,s,h,_ => by
  have:ia s = none:=by
   cases hq:ia s with
   | none => rfl
   | some x =>
    obtain ⟨b,n,t⟩:=x
    have:=(yi hq).2.2.1
    omega
  unfold vu; rw [this]
 | k + 1,0,s,_,h => by
  have:ia s = none:=by
   cases hq:ia s with
   | none => rfl
   | some x =>
    obtain ⟨b,n,t⟩:=x
    have:=(yi hq).2.2.1
    omega
  unfold vu; rw [this]
 | k + 1,m + 1,s,h1,h2 => by
  unfold vu
  cases hq:ia s with
  | none => rfl
  | some x =>
   obtain ⟨b,n,t⟩:=x
   obtain ⟨_,e,h3,_⟩:=yi hq
   have:t.size = s.size - (16 + b.size):=by rw [e,ByteArray.size_extract]; omega
   simp only
   rw [zbnw k m t (by omega) (by omega)]
theorem uy {s:ByteArray} (h:ia s = none):fj s = []:=by
 unfold fj
 cases s.size with
 | zero => rfl
 | succ k => unfold vu; rw [h]
theorem zb7y {s b t:ByteArray} {n:Nat} (h:ia s = some (b,n,t)):fj s = (b,n) :: fj t:=by
 obtain ⟨_,e,h3,_⟩:=yi h
 have e2:t.size = s.size - (16 + b.size):=by rw [e,ByteArray.size_extract]; omega
 unfold fj
 rw [zbnw s.size (s.size + 1) s (Nat.le_refl _) (Nat.le_succ _)]
 conv => lhs; unfold vu
 rw [h]
 simp only
 rw [zbnw s.size t.size t (by omega) (Nat.le_refl _)]
def zcek (l:List (ByteArray × Nat)):Nat:=(l.map Prod.snd).sum
theorem zbov (s:ByteArray):zbbj s = (fj s).map Prod.fst:=rfl
theorem zbow (s:ByteArray):zbio s = zcek (fj s):=rfl
theorem zbm9 (a b:ByteArray) (i j:Nat) (h:j ≤ a.size):(a ++ b).extract i j = a.extract i j:=by
 apply ByteArray.ext
 rw [ByteArray.data_extract,ByteArray.data_extract,ByteArray.data_append,Array.extract_append]
 have:(b.data.extract (i - a.data.size) (j - a.data.size)) = #[]:=by
  have hz:j - a.data.size = 0:=by have:a.data.size = a.size:=rfl; omega
  rw [hz]
  apply Array.eq_empty_of_size_eq_zero
  rw [Array.size_extract]
  omega
 rw [this,Array.append_empty]
theorem zb5t (a b:ByteArray) (n:Nat) (h:a.size = n):(a ++ b).extract 0 n = a:=by rw [← h]; exact zcfo a b
theorem zbhy (a b:ByteArray) (n:Nat) (h:a.size = n):(a ++ b).extract n (a ++ b).size = b:=by rw [← h]; exact zcfn a b
theorem zb5a (b t:ByteArray) (h:b.size ≤ 1048576):xo (fy b ++ t) = some (b,t):=by
 have e1:(fy b ++ t).extract 0 8 = kg b.size:=by
  unfold fy; rw [ByteArray.append_assoc]; exact zb5t _ _ 8 rfl
 have e2:zbem ((fy b ++ t).extract 0 8).data.toList = (b.size:Int):=by
  rw [e1,Wl.numW_eq]; exact zbus _ ⟨by omega,by omega⟩
 have sz:(fy b ++ t).size = 8 + b.size + t.size:=by rw [ByteArray.size_append,d7]
 unfold xo
 rw [e2,if_pos ⟨by omega,by omega,by omega,by omega⟩,Int.toNat_natCast]
 have e3:(fy b ++ t).extract (8 + b.size) (fy b ++ t).size = t:=zbhy _ _ _ (by rw [d7])
 have e4:(fy b ++ t).extract 8 (8 + b.size) = b:=by
  rw [zbm9 _ _ _ _ (by rw [d7]; omega)]
  have:=zbhy (kg b.size) b 8 rfl
  rw [ByteArray.size_append,gy] at this
  exact this
 rw [e3,e4]
theorem zbb0 (b t:ByteArray) (h:b.size ≤ 1048576):ia (og b ++ t) = some (b,16 + b.size,t):=by
 have e0:og b ++ t = fy b ++ (qy b ++ t):=by unfold og; rw [ByteArray.append_assoc]
 have ht:xo (og b ++ t) = some (b,qy b ++ t):=by rw [e0]; exact zb5a b _ h
 have e1:(og b ++ t).extract (16 + b.size) (og b ++ t).size = t:=zbhy _ _ _ (eq b)
 have e2:(og b ++ t).extract (8 + b.size) (16 + b.size) = qy b:=by
  rw [zbm9 _ _ _ _ (by rw [eq]; omega)]
  have:=zbhy (fy b) (qy b) (8 + b.size) (d7 b)
  unfold og
  rw [ByteArray.size_append,d7,oa] at this
  rw [show 16 + b.size = 8 + b.size + 8 from by omega]
  exact this
 unfold ia
 rw [ht]
 simp only [Option.bind_some]
 rw [if_pos ⟨by rw [ByteArray.size_append,oa]; omega,e2⟩,e1]
theorem zboj (b t:ByteArray) (h:b.size ≤ 1048576):fj (og b ++ t) = (b,16 + b.size) :: fj t:=zb7y (zbb0 b t h)
theorem zbuc {s:ByteArray} (h:s.size < 16):fj s = []:=by
 refine uy ?_
 cases hq:ia s with
 | none => rfl
 | some x =>
  obtain ⟨b,n,t⟩:=x
  have:=(yi hq).2.2.1
  omega
theorem yc:bz = some true:=by
 have s1:(⟨#[97]⟩:ByteArray).size = 1:=rfl
 have s0:(⟨#[]⟩:ByteArray).size = 0:=rfl
 have sx:(⟨#[120]⟩:ByteArray).size = 1:=rfl
 have ea:(og ⟨#[97]⟩ ++ og ⟨#[]⟩).size = 33:=by rw [ByteArray.size_append,eq,eq,s1,s0]
 have eb:(og ⟨#[97]⟩ ++ og ⟨#[]⟩ ++ ⟨#[120]⟩).size = 34:=by rw [ByteArray.size_append,ea,sx]
 have er:fj (og ⟨#[97]⟩ ++ og ⟨#[]⟩ ++ ⟨#[120]⟩) = [(⟨#[97]⟩,17),(⟨#[]⟩,16)]:=by
  rw [ByteArray.append_assoc,zboj _ _ (by rw [s1]; omega),zboj _ _ (by rw [s0]; omega),zbuc (by rw [sx]; omega),s1,s0]
 have e0:fj (⟨#[]⟩:ByteArray) = []:=zbuc (by rw [s0]; omega)
 unfold bz
 rw [zbm7 _ (by rw [s1]; omega),obz,zbm7 _ (by rw [s0]; omega),obz,if_pos (by rw [← ByteArray.size_append,ea]; omega),if_pos (by rw [ea,sx]; omega),zbm8 _ (by rw [eb]; omega),obz,zbm8 _ (by rw [s0]; omega),obz]
 rw [zbov,zbow,zbov,zbow,er,e0]
 simp only [List.map_cons,List.map_nil,List.length_cons,List.length_nil]
 rw [if_pos (by decide)]
 have i0:ixL [(⟨#[97]⟩:ByteArray),⟨#[]⟩] (0:Int) = some ⟨#[97]⟩:=rfl
 have i1:ixL [(⟨#[97]⟩:ByteArray),⟨#[]⟩] (1:Int) = some ⟨#[]⟩:=rfl
 rw [i0,obz,if_pos rfl,i1,obz,if_pos rfl,eb]
 rfl
open Go Go.RowKit Sh Ic
open Go Go.RowKit Sh Ic
end Go.Proofs.Ytgkkienmocpnbaa
