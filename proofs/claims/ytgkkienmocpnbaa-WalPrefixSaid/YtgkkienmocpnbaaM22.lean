import Derived.Test.YtgkkienmocpnbaaM21
import Derived.Maps.OwnIn
set_option linter.unusedVariables false
set_option linter.unusedSimpArgs false
set_option linter.unusedSectionVars false
namespace Go.Proofs.Ytgkkienmocpnbaa.Wl
open Go Go.RowKit Sh Ic
attribute [local go_sem] Oper.semAt_some zaaw zaax
theorem zbcr (s:ByteArray) (w:World) (n:Nat):CallsIn Fence.wide n Try.prog 19 #[.string s] w fun e w' => e = .returned (.func (.func 30) #[] #[.pointer (some ⟨w.heap.size,0,none⟩)]) ∧ w' = w.alloc (.cells #[.string s] 9):=by
 refine callsIn_of_wp Try.func19 rfl trivial ?_ rfl
 simp only [Try.ntmps19,List.size_toArray,List.length_cons,List.length_nil,Nat.reduceAdd,Nat.reduceSub,Array.replicate_succ,Array.replicate_zero,List.push_toArray,List.append_toArray,List.nil_append,List.cons_append]
 gi_wp2
 go_ret
 exact ⟨rfl,rfl⟩
theorem zbq2:(Try.prog.info? 9).map (fun i => (i.zero,i.size,i.bytes)) = some (some (.string .empty),1,16):=by kernel_rfl
def dp (xs:List (ByteArray × Nat)):Nat:=(xs.map Prod.snd).sum
theorem zbun (xs:List (ByteArray × Nat)) (x:ByteArray × Nat):dp (xs ++ [x]) = dp xs + x.2:=by simp [dp]
theorem zbau {W:World} {B D:Nat} {t:TypeId} {v:Value} (h:Boxed W B t v) (hD:W.heap[D]? = some (.deferred (some []))):Boxed (W.putObj D (.deferred none)) B t v :=
 h.kept (grownBy_putObj' W D _) fun e => by
  injection e with e
  subst e
  rw [show W.heap[B]? = _ from h] at hD
  cases hD
theorem zbu4 {W:World} {B D:Nat} {t:TypeId} {v:Value} (h:Boxed W B t v) (hD:W.drew.heap[D]? = some (.deferred (some []))):Boxed (W.drew.putObj D (.deferred none)) B t v:=zbau (W:=W.drew) h hD
theorem zb7h {W:World} {base size k D:Nat} {e:TypeId} {v:Value} {xs:List Value} (h:W.ownsRow base e size v k xs) (hD:W.drew.heap[D]? = some (.deferred (some []))):(W.drew.putObj D (.deferred none)).ownsRow base e size v k xs:=ownsRow_putObj (W:=W.drew) h (.deferred none) hD rfl
def Inv (w:World) (pre:List (ByteArray × Nat)) (W:World):Prop :=
 (∃ v,Boxed W w.heap.size 22 v ∧ W.ownsRow w.heap.size 9 1 v pre.length (pre.map fun x => .string x.1) ∧ v.ownBlock ≠ some (w.heap.size + 2)) ∧ Boxed W (w.heap.size + 1) 3 (.int .i64 (dp pre:Nat)) ∧ Below w.heap.size w W ∧ w.heap.size + 3 ≤ W.heap.size
theorem zbhb {n₀ B:Nat} {W W':World} {base size k:Nat} {e:TypeId} {v:Value} {xs:List Value} (h:W.ownsRow base e size v k xs) (hb:v.ownBlock ≠ some B) (ha:Asc n₀ B W W'):W'.ownsRow base e size v k xs:=by
 obtain ⟨h1,h2⟩:=h
 refine ⟨h1,?_⟩
 rcases h2 with h2 | ⟨g,cap,cur,rfl,h3,h4,h5⟩
 · exact .inl h2
 · exact .inr ⟨g,cap,cur,rfl,h3,ha.cells g _ h4 rfl (fun q => hb (by rw [← q]; rfl)),h5⟩
theorem Inv.sta (w:World):Sta w.heap.size (w.heap.size + 2) (Inv w):=by
 rintro ys W W' ⟨⟨v,h1,h2,h3⟩,h4,h5,h6⟩ ha
 exact ⟨⟨v,ha.cells _ _ h1 rfl (by omega),zbhb h2 h3 ha,h3⟩,ha.cells _ _ h4 rfl (by omega),h5.trans ha.below,Nat.le_trans h6 ha.below.size⟩
theorem fk:∀ (k:Nat) (s:ByteArray),dp (vu k s) ≤ s.size ∧ (vu k s).length ≤ s.size
 | 0,s => ⟨Nat.zero_le _,Nat.zero_le _⟩
 | k + 1,s => by
  unfold vu
  cases h:ia s with
  | none => exact ⟨Nat.zero_le _,Nat.zero_le _⟩
  | some x =>
   have hx:x.2.1 = 16 + x.1.size ∧ x.2.2.size = s.size - (16 + x.1.size) ∧ 16 + x.1.size ≤ s.size:=by
    unfold ia at h
    cases ht:xo s with
    | none => rw [ht] at h; cases h
    | some y =>
     rw [ht] at h
     obtain ⟨b,t⟩:=y
     obtain ⟨_,hsz,_,_,_⟩:=text_some ht
     simp only [Option.bind_some] at h
     split at h
     · rename_i hc
       simp only [Option.some.injEq] at h
       subst h
       have:=hc.1
       exact ⟨rfl,by simp only; rw [ByteArray.size_extract]; omega,by simp only; omega⟩
     · cases h
   obtain ⟨h1,h2⟩:=fk k x.2.2
   obtain ⟨e1,e2,e3⟩:=hx
   have:dp ((x.1,x.2.1) :: vu k x.2.2) = x.2.1 + dp (vu k x.2.2):=by simp [dp]
   exact ⟨by simp only; omega,by simp only [List.length_cons]; omega⟩
theorem zbhf {pre xs:List (ByteArray × Nat)} (h:pre <+: xs):dp pre ≤ dp xs:=by
 obtain ⟨t,rfl⟩:=h
 simp [dp]
set_option maxRecDepth 100000 in
set_option maxHeartbeats 4000000 in
theorem scanW (s:ByteArray) (hs:s.size ≤ 1000000000) (w:World):Calls Try.prog 9 #[.string s] w fun e W' => ∃ v,e = .returned (.tuple #[v,.int .i64 (zbic s:Nat)]) ∧ Below w.heap.size w W' ∧ W'.ownsRow w.heap.size 9 1 v (zbby s).length ((zbby s).map Value.string):=by
 refine (callsIn_wide (n:=5)).1 ?_
 obtain ⟨i0,hi,hz0,hz1,hz2⟩:=info_parts zbq2
 have hu:Try.prog.underlying 22 = some (.slice 9):=by kernel_rfl
 have hmx:Try.prog.follows .mixedOrders = true:=by kernel_rfl
 refine callsIn_of_wp_marks Try.func9 rfl trivial ?_ rfl
 simp only [Try.ntmps9,List.size_toArray,List.length_cons,List.length_nil,Nat.reduceAdd,Nat.reduceSub,Array.replicate_succ,Array.replicate_zero,List.push_toArray,List.append_toArray,List.nil_append,List.cons_append]
 gi_wp2_with (gi_at_call 19; refine (zbcr s _ _).mono ?_; rintro e w' ⟨rfl,rfl⟩)
 have bO:=Boxed.new w 22 (.slice none 0 0)
 have bG:=Boxed.new (w.alloc (.cells #[.slice none 0 0] 22)) 3 (.int .i64 0)
 have bS:=Boxed.new ((w.alloc (.cells #[.slice none 0 0] 22)).alloc (.cells #[.int .i64 0] 3)) 9 (.string s)
 rw [World.size_alloc] at bG
 rw [World.size_alloc,World.size_alloc] at bS
 have hB0:Below w.heap.size w (((w.alloc (.cells #[.slice none 0 0] 22)).alloc (.cells #[.int .i64 0] 3)).alloc (.cells #[.string s] 9)):=(((Below.refl _ w).alloc (Nat.le_refl _) _).alloc (by simp) _).alloc (by simp; omega) _
 refine zcch (n₀:=w.heap.size) (B:=w.heap.size + 2) (T:=9) (s:=.string s) (encs:=zblf) (xs:=vu s.size s) rfl (by omega) (gf:=30) rfl trivial (enters_of Try.func30 (by kernel_rfl) rfl)
  (fun l J W hB hJ hY h0 => mw _ (by omega) (w.heap.size + 2) l s hs J W hB hJ hY h0) bS (by omega) (fun _ => rfl) (Inv w) (Inv.sta w)
  ⟨⟨_,(bO.alloc _).alloc _,World.ownsRow_nil _ _ _ _,by simp [Value.ownBlock]⟩,bG.alloc _,hB0,by simp⟩
  (fun x => { tmps:=#[.string s,undef,.pointer (some ⟨w.heap.size,0,none⟩),.pointer (some ⟨w.heap.size + 1,0,none⟩),.int .i64 (x.2:Nat),.string x.1,.string s,.func (.func 30) #[] #[.pointer (some ⟨w.heap.size + 1 + 1,0,none⟩)],.int .i64 (x.2:Nat),.string x.1,undef,undef,undef,undef,undef,undef,undef,undef,undef],defers:=[] }) ?assign ?body ?done
 case assign =>
  intro l x W K hK
  dsimp only [zblf]
  gi_wp2
  exact hK
 case body =>
  rintro l pre x W ⟨⟨v,hv,hrow,hne⟩,hg,hB,hsz⟩ hpx
  have hlen:(pre ++ [x]).length ≤ s.size:=Nat.le_trans (hpx.length_le) (fk _ _).2
  rw [List.length_append] at hlen
  have hlen:pre.length + 1 ≤ s.size:=hlen
  have hsum:dp (pre ++ [x]) ≤ s.size:=Nat.le_trans (zbhf hpx) (fk _ _).1
  rw [zbun] at hsum
  have hadd:IntKind.i64.wrap (((dp pre:Nat):Int) + ((x.2:Nat):Int)) = ((dp pre:Nat):Int) + ((x.2:Nat):Int):=w64 (by omega) (by omega)
  have hc:=hv.cell
  have hgl:=hg.lt
  have hmx1:pre.length + 1 ≤ maxLen:=by unfold maxLen; omega
  have hmx2:w.heap.size ≤ (W.alloc (.cells #[.string x.1] 9)).heap.size:=by have:=hB.size; simp; omega
  gi_wp2_with (gi_at_builtin; refine wpListIn_append_own_at _ rfl _ _ 22 rfl w.heap.size 9 i0 (.string .empty) 1 16 hu hi hz0 hz1 hz2 rfl (by decide) _ _ _ rfl (hrow.alloc _) ⟨W.heap.size,0,none⟩ 1 1 [.string x.1] rfl rfl (cell_one_new _ _ _) (by simp [Value.oneCell']) (by exact hmx1) (by omega) (by exact hmx2) ?_; intro v' w1 hown' hgrow _ hat; obtain ⟨g',cap',rfl⟩:=ownsRow_succ hown'; obtain ⟨hv1,hv2,hr2,hk2,hb2⟩:=hv.appended (by decide) hrow hB.size (Nat.le_refl _) hown' hgrow; have hc1:=hv1.cell; have hf1:=hv1.frozen; have hg1:Boxed w1 (w.heap.size + 1) 3 (.int .i64 (dp pre:Nat)):=(hg.alloc (.cells #[.string x.1] 9)).kept hgrow (hg.not_row (e:=9) (by decide) hrow); have hg2:=hg1.other (B':=w.heap.size) (Nat.succ_ne_self _) (.slice (some ⟨g',0,none⟩) (pre.length + 1) cap'); have hgc:=hg2.cell; have hgf:=hg2.frozen)
  refine ⟨hk2.trans (.setCell _ _ _),?_,⟨_,hv2.other (Nat.ne_of_lt (Nat.lt_succ_self _)) _,?_,?_⟩,?_,hB.trans (hb2.setCell (p:=⟨w.heap.size + 1,0,none⟩) (Nat.le_succ _) _),?_⟩
  · have e1:w.heap.size + 2 < W.heap.size:=by omega
    refine (Below.heap_setCell _ _ _ _ (by simp)).trans ((Below.heap_setCell _ _ _ _ (by simp)).trans ((hgrow.block _ (by simp; omega) (fun q => hne q.symm)).trans (Below.heap_alloc _ _ _ e1)))
  · have:=hr2.kept (grownBy_setCell' _ (w.heap.size + 1) (.int .i64 (((dp pre:Nat):Int) + ((x.2:Nat):Int)))) (.inr (hg2.not_row (e:=9) (by decide) hr2).symm)
    simpa using this
  · rcases hat with hat | hat
    · rw [hat]; exact hne
    · rw [hat]
      intro q
      injection q with q
      simp at q
      omega
  · have:=hg2.set (.int .i64 (((dp pre:Nat):Int) + ((x.2:Nat):Int)))
    rw [zbun,Int.natCast_add]
    exact this
  · have:=hgrow.size
    simp only [World.size_alloc] at this
    show _ ≤ (World.setCell _ _ _).heap.size
    have e1:=(KeepsWalks.setCell (w1.setCell ⟨w.heap.size,0,none⟩ (.slice (some ⟨g',0,none⟩) (pre.length + 1) cap')) ⟨w.heap.size + 1,0,none⟩ (.int .i64 (((dp pre:Nat):Int) + ((x.2:Nat):Int)))).size
    have e2:=(KeepsWalks.setCell w1 ⟨w.heap.size,0,none⟩ (.slice (some ⟨g',0,none⟩) (pre.length + 1) cap')).size
    omega
 case done =>
  rintro D W hD ⟨⟨v,hv,hrow,hne⟩,hg,hB,hsz⟩ hK
  have hc:=hv.cell
  have hf:=hv.frozen
  have hgc:=hg.cell
  have hgf:=hg.frozen
  have hg3:∀ u,Boxed (W.drew.setCell ⟨w.heap.size,0,none⟩ u) (w.heap.size + 1) 3 (.int .i64 (dp (vu s.size s):Nat)):=fun u => Boxed.other (W:=W.drew) hg (Nat.succ_ne_self _) u
  have fin:∃ g cap,v = .slice g (vu s.size s).length cap:=by
   rcases hrow.2 with ⟨h1,h2⟩ | ⟨g,cap,_,h1,_⟩
   · exact ⟨none,0,by rw [h1,h2]⟩
   · exact ⟨_,_,h1⟩
  obtain ⟨g,cap,rfl⟩:=fin
  have hg4:=(hg3 (.slice g (vu s.size s).length cap)).cell
  have hg5:=(hg3 (.slice g (vu s.size s).length cap)).frozen
  have hK':((W.setCell ⟨w.heap.size,0,none⟩ (.slice g (vu s.size s).length cap)).setCell ⟨w.heap.size + 1,0,none⟩ (.int .i64 (dp (vu s.size s):Nat))).drew.heap[D]? = some (.deferred (some [])):=((KeepsOthers.setCell W _ _).trans (.setCell _ _ _)).same D _ hK rfl
  have b1:=zbu4 (Boxed.other (hv.set (.slice g (vu s.size s).length cap)) (Nat.ne_of_lt (Nat.lt_succ_self w.heap.size)) (.int .i64 (dp (vu s.size s):Nat))) hK'
  have b2:=zbu4 ((Boxed.other (W:=W) hg (Nat.succ_ne_self _) (.slice g (vu s.size s).length cap)).set (.int .i64 (dp (vu s.size s):Nat))) hK'
  gi_wp2
  gi_region_with_o (fail)
  all_goals gi_wp2
  all_goals
   refine ⟨by simp,.inl ⟨_,_,rfl,run_takeDeferred hK',?_⟩⟩
   refine ⟨.tuple #[.slice g (vu s.size s).length cap,.int .i64 (dp (vu s.size s):Nat)],?_,.slice g (vu s.size s).length cap,rfl,?_,?_⟩
   · have c1:=b1.cell
     have c2:=b2.cell
     simp [results,Try.f9,go_sem,c1,c2]
   · exact (((hB.setCell (p:=⟨w.heap.size,0,none⟩) (Nat.le_refl _) _).setCell (p:=⟨w.heap.size + 1,0,none⟩) (Nat.le_succ _) _).drew).trans (Asc.putObj (B:=0) _ hD hK' rfl).below
   · have r1:=hrow.kept (grownBy_setCell' W w.heap.size (.slice g (vu s.size s).length cap)) (.inr (hv.not_row (e:=9) (by decide) hrow).symm)
     have r2:=r1.kept (grownBy_setCell' _ (w.heap.size + 1) (.int .i64 (dp (vu s.size s):Nat))) (.inr ((Boxed.other (W:=W) hg (Nat.succ_ne_self _) _).not_row (e:=9) (by decide) r1).symm)
     have r3:=zb7h r2 hK'
     have e1:(zbby s).length = (vu s.size s).length:=List.length_map ..
     have e2:(zbby s).map Value.string = (vu s.size s).map fun x => .string x.1:=by rw [zbby,List.map_map]; rfl
     rw [e1,e2]
     exact r3
end Go.Proofs.Ytgkkienmocpnbaa.Wl
namespace Go.Proofs.Ytgkkienmocpnbaa
open Go Go.RowKit Sh Ic
theorem zbnr (s:ByteArray) (h:s.size ≤ 1000000000):gr s = some (zbby s,(zbic s:Int)):=if_pos fun τ => Wl.texts_callT (T:=9) (by kernel_rfl) (fun w => Wl.scanW s h w) τ
open Go Go.RowKit Sh Ic
theorem zb8h (n k:Int) (hk:0 < k) (hk2:k < 9223372036854775808):j8 n k = some (n % k):=by
 unfold j8
 rw [if_pos (by omega)]
 have h1:=Int.emod_nonneg n (show k ≠ 0 by omega)
 have h2:=Int.emod_lt_of_pos n hk
 by_cases c:0 ≤ n
 · have e:Int.tmod n k = n % k:=Int.tmod_eq_emod_of_nonneg c
   rw [e,if_neg (by omega)]
 · have e:=Int.tmod_eq_emod (a:=n) (b:=k)
   by_cases d:n % k = 0
   · have:Int.tmod n k = 0:=by
      rw [e,d]
      have:k ∣ n:=Int.dvd_of_emod_eq_zero d
      simp [this]
     rw [this,d,if_neg (by decide)]
   · have nd:¬ k ∣ n:=fun h => d (Int.emod_eq_zero_of_dvd h)
     have e2:Int.tmod n k = n % k - k:=by
      rw [e,if_neg (fun h => h.elim c nd)]
      omega
     rw [e2,if_pos (by omega),w64 (by omega) (by omega)]
     congr 1
     omega
open Go Go.RowKit Sh Ic
def og (b:ByteArray):ByteArray:=fy b ++ qy b
theorem oa (b:ByteArray):(qy b).size = 8:=by unfold qy; rw [ByteArray.size_extract,zby4]; rfl
theorem eq (b:ByteArray):(og b).size = 16 + b.size:=by unfold og; rw [ByteArray.size_append,d7,oa]; omega
theorem nov {n:Nat} (h:n ≤ 1000000000):¬ (9223372036854775807 < (n:Int)):=by omega
theorem zbnq (b:ByteArray) (h:b.size ≤ 1048576):mn b = some (og b):=by
 unfold mn
 rw [zbhz b (by omega),obz,Wl.seal_f b (by omega),obz,if_pos (nov (by rw [d7,oa]; omega))]
 rfl
open Go Go.RowKit Sh Ic
theorem yi {s b t:ByteArray} {n:Nat} (h:ia s = some (b,n,t)):n = 16 + b.size ∧ t = s.extract (16 + b.size) s.size ∧ 16 + b.size ≤ s.size ∧ b.size ≤ 1048576:=by
 unfold ia at h
 cases ht:xo s with
 | none => rw [ht] at h; cases h
 | some y =>
  rw [ht] at h
  obtain ⟨c,u⟩:=y
  obtain ⟨_,hsz,hm,_,_⟩:=Wl.text_some ht
  simp only [Option.bind_some] at h
  split at h
  · rename_i hc
    simp only [Option.some.injEq,Prod.mk.injEq] at h
    obtain ⟨rfl,rfl,rfl⟩:=h
    have:=hc.1
    exact ⟨rfl,rfl,by omega,hm⟩
  · cases h
def j4 (s:ByteArray):List (ByteArray × Nat):=vu s.size s
theorem zboe:∀ (k m:Nat) (s:ByteArray),s.size ≤ k → s.size ≤ m → vu k s = vu m s
 | 0,0,s,_,_ => rfl
 | 0,m + 1,s,h,_ => by
  have:ia s = none:=by
   cases hq:ia s with
   | none => rfl
   | some x =>
    obtain ⟨b,n,t⟩:=x
    have:=(yi hq).2.2.1
    omega
  unfold vu; rw [this]
 | k + 1,0,s,_,h => by
  have:ia s = none:=by
   cases hq:ia s with
   | none => rfl
   | some x =>
    obtain ⟨b,n,t⟩:=x
    have:=(yi hq).2.2.1
    omega
  unfold vu; rw [this]
 | k + 1,m + 1,s,h1,h2 => by
  unfold vu
  cases hq:ia s with
  | none => rfl
  | some x =>
   obtain ⟨b,n,t⟩:=x
   obtain ⟨_,e,h3,_⟩:=yi hq
   have:t.size = s.size - (16 + b.size):=by rw [e,ByteArray.size_extract]; omega
   simp only
   rw [zboe k m t (by omega) (by omega)]
theorem uy {s:ByteArray} (h:ia s = none):j4 s = []:=by
 unfold j4
 cases s.size with
 | zero => rfl
 | succ k => unfold vu; rw [h]
theorem zb7r {s b t:ByteArray} {n:Nat} (h:ia s = some (b,n,t)):j4 s = (b,n) :: j4 t:=by
 obtain ⟨_,e,h3,_⟩:=yi h
 have e2:t.size = s.size - (16 + b.size):=by rw [e,ByteArray.size_extract]; omega
 unfold j4
 rw [zboe s.size (s.size + 1) s (Nat.le_refl _) (Nat.le_succ _)]
 conv => lhs; unfold vu
 rw [h]
 simp only
 rw [zboe s.size t.size t (by omega) (Nat.le_refl _)]
def zbpw (l:List (ByteArray × Nat)):Nat:=(l.map Prod.snd).sum
theorem zbo8 (s:ByteArray):zbby s = (j4 s).map Prod.fst:=rfl
theorem zbo9 (s:ByteArray):zbic s = zbpw (j4 s):=rfl
theorem zbns (a b:ByteArray) (i j:Nat) (h:j ≤ a.size):(a ++ b).extract i j = a.extract i j:=by
 apply ByteArray.ext
 rw [ByteArray.data_extract,ByteArray.data_extract,ByteArray.data_append,Array.extract_append]
 have:(b.data.extract (i - a.data.size) (j - a.data.size)) = #[]:=by
  have hz:j - a.data.size = 0:=by have:a.data.size = a.size:=rfl; omega
  rw [hz]
  apply Array.eq_empty_of_size_eq_zero
  rw [Array.size_extract]
  omega
 rw [this,Array.append_empty]
theorem zb5m (a b:ByteArray) (n:Nat) (h:a.size = n):(a ++ b).extract 0 n = a:=by rw [← h]; exact zcgd a b
theorem zbmg (a b:ByteArray) (n:Nat) (h:a.size = n):(a ++ b).extract n (a ++ b).size = b:=by rw [← h]; exact zcgc a b
theorem zcfc (b t:ByteArray) (h:b.size ≤ 1048576):xo (fy b ++ t) = some (b,t):=by
 have e1:(fy b ++ t).extract 0 8 = kg b.size:=by
  unfold fy; rw [ByteArray.append_assoc]; exact zb5m _ _ 8 rfl
 have e2:zbe6 ((fy b ++ t).extract 0 8).data.toList = (b.size:Int):=by
  rw [e1,Wl.numW_eq]; exact zbu8 _ ⟨by omega,by omega⟩
 have sz:(fy b ++ t).size = 8 + b.size + t.size:=by rw [ByteArray.size_append,d7]
 unfold xo
 rw [e2,if_pos ⟨by omega,by omega,by omega,by omega⟩,Int.toNat_natCast]
 have e3:(fy b ++ t).extract (8 + b.size) (fy b ++ t).size = t:=zbmg _ _ _ (by rw [d7])
 have e4:(fy b ++ t).extract 8 (8 + b.size) = b:=by
  rw [zbns _ _ _ _ (by rw [d7]; omega)]
  have:=zbmg (kg b.size) b 8 rfl
  rw [ByteArray.size_append,gy] at this
  exact this
 rw [e3,e4]
theorem zbcj (b t:ByteArray) (h:b.size ≤ 1048576):ia (og b ++ t) = some (b,16 + b.size,t):=by
 have e0:og b ++ t = fy b ++ (qy b ++ t):=by unfold og; rw [ByteArray.append_assoc]
 have ht:xo (og b ++ t) = some (b,qy b ++ t):=by rw [e0]; exact zcfc b _ h
 have e1:(og b ++ t).extract (16 + b.size) (og b ++ t).size = t:=zbmg _ _ _ (eq b)
 have e2:(og b ++ t).extract (8 + b.size) (16 + b.size) = qy b:=by
  rw [zbns _ _ _ _ (by rw [eq]; omega)]
  have:=zbmg (fy b) (qy b) (8 + b.size) (d7 b)
  unfold og
  rw [ByteArray.size_append,d7,oa] at this
  rw [show 16 + b.size = 8 + b.size + 8 from by omega]
  exact this
 unfold ia
 rw [ht]
 simp only [Option.bind_some]
 rw [if_pos ⟨by rw [ByteArray.size_append,oa]; omega,e2⟩,e1]
theorem zbox (b t:ByteArray) (h:b.size ≤ 1048576):j4 (og b ++ t) = (b,16 + b.size) :: j4 t:=zb7r (zbcj b t h)
theorem zbnz {s:ByteArray} (h:s.size < 16):j4 s = []:=by
 refine uy ?_
 cases hq:ia s with
 | none => rfl
 | some x =>
  obtain ⟨b,n,t⟩:=x
  have:=(yi hq).2.2.1
  omega
theorem yc:bz = some true:=by
 have s1:(⟨#[97]⟩:ByteArray).size = 1:=rfl
 have s0:(⟨#[]⟩:ByteArray).size = 0:=rfl
 have sx:(⟨#[120]⟩:ByteArray).size = 1:=rfl
 have ea:(og ⟨#[97]⟩ ++ og ⟨#[]⟩).size = 33:=by rw [ByteArray.size_append,eq,eq,s1,s0]
 have eb:(og ⟨#[97]⟩ ++ og ⟨#[]⟩ ++ ⟨#[120]⟩).size = 34:=by rw [ByteArray.size_append,ea,sx]
 have er:j4 (og ⟨#[97]⟩ ++ og ⟨#[]⟩ ++ ⟨#[120]⟩) = [(⟨#[97]⟩,17),(⟨#[]⟩,16)]:=by
  rw [ByteArray.append_assoc,zbox _ _ (by rw [s1]; omega),zbox _ _ (by rw [s0]; omega),zbnz (by rw [sx]; omega),s1,s0]
 have e0:j4 (⟨#[]⟩:ByteArray) = []:=zbnz (by rw [s0]; omega)
 unfold bz
 rw [zbnq _ (by rw [s1]; omega),obz,zbnq _ (by rw [s0]; omega),obz,if_pos (by rw [← ByteArray.size_append,ea]; omega),if_pos (by rw [ea,sx]; omega),zbnr _ (by rw [eb]; omega),obz,zbnr _ (by rw [s0]; omega),obz]
 rw [zbo8,zbo9,zbo8,zbo9,er,e0]
 simp only [List.map_cons,List.map_nil,List.length_cons,List.length_nil]
 rw [if_pos (by decide)]
 have i0:ixL [(⟨#[97]⟩:ByteArray),⟨#[]⟩] (0:Int) = some ⟨#[97]⟩:=rfl
 have i1:ixL [(⟨#[97]⟩:ByteArray),⟨#[]⟩] (1:Int) = some ⟨#[]⟩:=rfl
 rw [i0,obz,if_pos rfl,i1,obz,if_pos rfl,eb]
 rfl
open Go Go.RowKit Sh Ic
def de:List ByteArray → ByteArray
 | [] => ⟨#[]⟩
 | b :: r => og b ++ de r
theorem zbw0:∀ {L:List ByteArray},(∀ b ∈ L,b.size ≤ 200) → (de L).size ≤ L.length * 216 ∧ 16 * L.length ≤ (de L).size
 | [],_ => ⟨Nat.le_refl _,Nat.le_refl _⟩
 | b :: r,h => by
  have h1:=h b (by simp)
  have h2:=zbw0 (L:=r) fun c hc => h c (by simp [hc])
  unfold de
  rw [ByteArray.size_append,eq,List.length_cons]
  omega
theorem zb5o:∀ {L:List ByteArray},zbpw (L.map fun b => (b,16 + b.size)) = (de L).size
 | [] => rfl
 | b :: r => by
  unfold de
  rw [ByteArray.size_append,eq,← zb5o (L:=r)]
  simp [zbpw]
theorem zcfa (L:List ByteArray) (i:Nat) (h:i < L.length):de (L.drop i) = og L[i] ++ de (L.drop (i + 1)):=by
 rw [List.drop_eq_getElem_cons h]; rfl
open Go Go.RowKit Sh Ic
def h9:Nat → List ByteArray → List Int
 | _,[] => []
 | a,b :: r => ((a + (16 + b.size):Nat):Int) :: h9 (a + (16 + b.size)) r
theorem zbnv:∀ (L:List ByteArray) (a:Nat),(h9 a L).length = L.length
 | [],_ => rfl
 | b :: r,a => by unfold h9; rw [List.length_cons,zbnv r,List.length_cons]
theorem zbab:∀ (L:List ByteArray) (a i:Nat) (h:i < (h9 a L).length),(h9 a L)[i] = ((a + (de (L.take (i + 1))).size:Nat):Int)
 | [],a,i,h => absurd h (Nat.not_lt_zero _)
 | b :: r,a,0,h => by
  show ((a + (16 + b.size):Nat):Int) = _
  rw [List.take_succ_cons,List.take_zero]
  unfold de de
  rw [ByteArray.size_append,eq]
  rfl
 | b :: r,a,i + 1,h => by
  show (h9 (a + (16 + b.size)) r)[i]'_ = _
  rw [zbab r (a + (16 + b.size)) i,List.take_succ_cons]
  conv => rhs; unfold de
  rw [ByteArray.size_append,eq,Nat.add_assoc]
def gp:List ByteArray → Nat → Nat
 | [],_ => 0
 | b :: r,k => if 16 + b.size ≤ k then gp r (k - (16 + b.size)) + 1 else 0
theorem zaay:∀ (L:List ByteArray) (k:Nat),gp L k ≤ L.length
 | [],_ => Nat.le_refl _
 | b :: r,k => by
  unfold gp
  split
  · rw [List.length_cons]; exact Nat.succ_le_succ (zaay r _)
  · exact Nat.zero_le _
theorem zbdf (a b:ByteArray) (k:Nat) (h:a.size ≤ k):(a ++ b).extract 0 k = a ++ b.extract 0 (k - a.size):=by
 apply ByteArray.ext
 rw [ByteArray.data_extract,ByteArray.data_append,ByteArray.data_append,ByteArray.data_extract,Array.extract_append]
 have e1:a.data.extract 0 k = a.data:=by
  rw [Array.extract_eq_self_of_le]
  exact h
 rw [e1,Nat.zero_sub]
 rfl
theorem zbhi (b p:ByteArray) (h:b.size ≤ 1048576) (h8:p.extract 0 8 = kg b.size):zbe6 (p.extract 0 8).data.toList = (b.size:Int):=by
 rw [h8,Wl.numW_eq]; exact zbu8 _ ⟨by omega,by omega⟩
theorem zbcs (b:ByteArray):(og b).extract 0 8 = kg b.size:=by
 unfold og fy; rw [ByteArray.append_assoc]; exact zb5m _ _ 8 rfl
theorem zbck (b:ByteArray) (k:Nat) (hb:b.size ≤ 1048576) (hk:k < 16 + b.size):ia ((og b).extract 0 k) = none:=by
 have sz:((og b).extract 0 k).size = k:=by rw [ByteArray.size_extract,eq]; omega
 unfold ia xo
 by_cases h8:8 ≤ k
 · have e:((og b).extract 0 k).extract 0 8 = kg b.size:=by
    rw [ByteArray.extract_extract,← zbcs b]; congr 1; omega
   rw [zbhi b _ hb e,sz,Int.toNat_natCast]
   split
   · rename_i hc
     simp only [Option.bind_some]
     rw [if_neg]
     rintro ⟨q,_⟩
     rw [ByteArray.size_extract,sz] at q
     omega
   · rfl
 · rw [if_neg (by rw [sz]; omega)]; rfl
theorem zb4b:∀ {L:List ByteArray} (k:Nat),(∀ b ∈ L,b.size ≤ 200) → j4 ((de L).extract 0 k) = (L.take (gp L k)).map fun b => (b,16 + b.size)
 | [],k,_ => by
  refine zbnz ?_
  rw [ByteArray.size_extract]
  show min k 0 - 0 < 16
  omega
 | b :: r,k,h => by
  have hb:=h b (by simp)
  have hr:∀ c ∈ r,c.size ≤ 200:=fun c hc => h c (by simp [hc])
  unfold de gp
  by_cases hk:16 + b.size ≤ k
  · rw [if_pos hk,zbdf _ _ _ (by rw [eq]; exact hk),eq,zbox _ _ (by omega),zb4b (k - (16 + b.size)) hr,List.take_succ_cons,List.map_cons]
  · rw [if_neg hk,zbns _ _ _ _ (by rw [eq]; omega),uy (zbck b k (by omega) (by omega)),List.take_zero]
    rfl
theorem za8c (L:List ByteArray) (p:Int) (hl:L.length ≤ 20) (n:Nat):∀ (i:Nat) (v:ByteArray) (es:List Int),n + i = L.length → v.size ≤ 300 * i → es.length = i →
 (df L p v es (i:Int) = some (.ex (v ++ de (L.drop i),es ++ h9 v.size (L.drop i))) ∧ ∀ b ∈ L.drop i,b.size ≤ 200) ∨ df L p v es (i:Int) = some (.rt true):=by
 induction n with
 | zero =>
  intro i v es h hv he
  left
  have e:L.drop i = []:=List.drop_eq_nil_of_le (by omega)
  rw [r9,bx,if_neg (by omega),obz,LS.go,e]
  exact ⟨by unfold de h9; rw [zbib,List.append_nil],fun b hb => by simp at hb⟩
 | succ n ih =>
  intro i v es h hv he
  have hi:i < L.length:=by omega
  rw [r9,bx,if_pos (by omega),xx hi,obz]
  by_cases hb:200 < L[i].size
  · right
    rw [if_pos (by omega),yc,obz,obz,LS.go]
  · rw [if_neg (by omega),zbnq _ (by omega),obz,if_pos (nov (by rw [eq]; omega)),if_pos (by omega),obz,LS.go,xz i (by omega)]
    have sv:(v ++ og L[i]).size = v.size + (16 + L[i].size):=by rw [ByteArray.size_append,eq]
    rcases ih (i + 1) (v ++ og L[i]) (es ++ [((v ++ og L[i]).size:Int)]) (by omega) (by rw [sv]; omega) (by rw [List.length_append,he]; rfl) with ⟨e,hq⟩ | e
    · left
      refine ⟨?_,fun b hm => ?_⟩
      · refine e.trans ?_
        rw [zcfa L i hi,ByteArray.append_assoc]
        conv => rhs; rw [List.drop_eq_getElem_cons hi]
        rw [sv,List.append_assoc]
        rfl
      · rw [List.drop_eq_getElem_cons hi] at hm
        rcases List.mem_cons.1 hm with rfl | hm
        · omega
        · exact hq b hm
    · exact .inr e
theorem zbtq (L:List ByteArray) (k:Nat) (x:List ByteArray) (y:Int):∀ (R:List ByteArray) (P:List Int) (a:Nat),a ≤ k → P.length + R.length ≤ 100 →
 ey L (P ++ h9 a R) (k:Int) x y (P.length:Int) = some ((P.length + gp R (k - a):Nat):Int)
 | [],P,a,_,_ => by
  have e:((P ++ h9 a []).length:Nat) = P.length:=by simp [h9]
  rw [r8,bw,if_neg (by rw [e]; omega),obz,LS.go]
  rfl
 | b :: r,P,a,ha,hl => by
  have el:(P ++ h9 a (b :: r)).length = P.length + (r.length + 1):=by rw [List.length_append,zbnv,List.length_cons]
  have eg:(P ++ h9 a (b :: r))[P.length]'(by omega) = ((a + (16 + b.size):Nat):Int):=by
   rw [List.getElem_append_right (Nat.le_refl _)]
   simp [h9]
  rw [List.length_cons] at hl
  rw [r8,bw,if_pos (by omega),xx (by omega),obz,eg]
  unfold gp
  by_cases hk:16 + b.size ≤ k - a
  · rw [if_pos (by omega),if_pos hk,obz,LS.go,xz _ (by omega)]
    have h:=zbtq L k x y r (P ++ [((a + (16 + b.size):Nat):Int)]) (a + (16 + b.size)) (by omega) (by rw [List.length_append]; show P.length + 1 + r.length ≤ 100; omega)
    rw [List.append_assoc,List.length_append] at h
    refine h.trans ?_
    rw [show k - (a + (16 + b.size)) = k - a - (16 + b.size) from by omega]
    show some ((P.length + 1 + _:Nat):Int) = _
    rw [Nat.add_assoc,Nat.add_comm 1]
  · rw [if_neg (by omega),if_neg hk,obz,LS.go]
    rfl
theorem za8b (L:List ByteArray) (w:Nat) (hw:w ≤ L.length) (hl:L.length ≤ 20) (n:Nat):∀ i,n + i = w → cw L (L.take w) (w:Int) (i:Int) = some (.ex ()):=by
 induction n with
 | zero =>
  intro i h
  rw [r7,bv,if_neg (by omega),obz,LS.go]
 | succ n ih =>
  intro i h
  have h1:i < (L.take w).length:=by rw [List.length_take]; omega
  rw [r7,bv,if_pos (by omega),xx h1,obz,xx (by omega),obz,if_pos List.getElem_take,obz,LS.go,xz i (by omega)]
  exact ih (i + 1) (by omega)
theorem zcf7 (L:List ByteArray) (p:Int):lx L p = some true:=by
 unfold lx
 by_cases hl:20 < L.length
 · rw [if_pos (by omega),yc,obz]
 · rw [if_neg (by omega)]
   rcases za8c L p (by omega) L.length 0 ⟨#[]⟩ [] (by omega) (Nat.le_refl _) rfl with ⟨e,hq⟩ | e
   · have e:df L p ⟨#[]⟩ [] (0:Int) = some (.ex (de L,h9 0 L)):=by
      rw [List.drop_zero,zcbq,List.nil_append] at e; exact e
     rw [List.drop_zero] at hq
     obtain ⟨h1,h2⟩:=zbw0 hq
     have w1:IntKind.i64.wrap ((16:Int) * ((L.length:Nat):Int)) = ((16 * L.length:Nat):Int):=by rw [w64 (by omega) (by omega)]; omega
     have w2:IntKind.i64.wrap ((((de L).size:Nat):Int) + 1) = (((de L).size + 1:Nat):Int):=by rw [w64 (by omega) (by omega)]; omega
     rw [e,obz]
     simp only
     rw [w1,if_neg (by omega),w2,zb8h _ _ (by omega) (by omega),obz]
     have r0:0 ≤ p % (((de L).size + 1:Nat):Int):=Int.emod_nonneg _ (by omega)
     have r1:p % (((de L).size + 1:Nat):Int) < (((de L).size + 1:Nat):Int):=Int.emod_lt_of_pos _ (by omega)
     obtain ⟨k,hk⟩:=Int.eq_ofNat_of_zero_le r0
     rw [hk] at r1 ⊢
     have hw:=zaay L k
     have hr:=zb4b (L:=L) k hq
     have hsz:((de L).extract 0 k).size ≤ 10000:=by rw [ByteArray.size_extract]; omega
     have hL:zbby ((de L).extract 0 k) = L.take (gp L k):=by
      rw [zbo8,hr,List.map_map]
      exact List.map_id _
     have hN:zbic ((de L).extract 0 k) = (de (L.take (gp L k))).size:=by rw [zbo9,hr,zb5o]
     have hlen:(L.take (gp L k)).length = gp L k:=by rw [List.length_take]; omega
     have e2:∀ x y,ey L (h9 0 L) (k:Int) x y (0:Int) = some ((gp L k:Nat):Int):=fun x y => by
      have h:=zbtq L k x y L [] 0 (Nat.zero_le _) (by show 0 + L.length ≤ 100; omega)
      rw [List.nil_append,Nat.sub_zero] at h
      have h:ey L (h9 0 L) (k:Int) x y (0:Int) = some ((0 + gp L k:Nat):Int):=h
      rw [h,Nat.zero_add]
     have e3:cw L (L.take (gp L k)) ((gp L k:Nat):Int) (0:Int) = some (.ex ()):=za8b L _ hw (by omega) (gp L k) 0 (by omega)
     rw [if_pos ⟨by omega,by omega⟩,Int.toNat_natCast,zbnr _ (by omega),obz,hL,hN]
     simp only
     rw [e2,obz,hlen,if_pos rfl]
     generalize hwn:gp L k = w at *
     by_cases h0:0 < w
     · have w3:IntKind.i64.wrap ((w:Int) - 1) = ((w - 1:Nat):Int):=by rw [w64 (by omega) (by omega)]; omega
       have hx:w - 1 < (h9 0 L).length:=by rw [zbnv]; omega
       rw [if_pos (by omega),w3,xx hx,obz,zbab,show w - 1 + 1 = w from by omega,if_pos (by rw [Nat.zero_add]),if_neg (by omega),e3,obz]
       simp only
       rw [yc,obz]
     · obtain rfl:w = 0:=by omega
       rw [if_neg (by omega),if_pos (by rfl),if_pos (by rw [List.take_zero]; rfl),e3,obz]
       simp only
       rw [yc,obz]
   · have e:df L p ⟨#[]⟩ [] (0:Int) = some (.rt true):=e
     rw [e,obz]
open Go Go.RowKit Sh Ic
open Sh.ArgT (enc)
theorem zb7v (L:List ByteArray) (p:Int) (_:Arg.ok L) (_:Arg.ok p):Lw G jt [enc L,enc p]:=⟨_,qa L p true (zcf7 L p) ⟨[],0⟩ (Nat.le_refl _)⟩
end Go.Proofs.Ytgkkienmocpnbaa
