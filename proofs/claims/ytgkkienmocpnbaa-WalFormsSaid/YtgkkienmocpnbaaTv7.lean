import Derived.Test.YtgkkienmocpnbaaTv6
set_option linter.unusedVariables false
set_option linter.unusedSimpArgs false
/- The tree level: code, functions. -/
namespace Go.Proofs.Ytgkkienmocpnbaa.Sh
open Go Go.RowKit
section
variable {P:Program} {B:Bs} {e e':Env} {fr:TF} {tk tk':TK} {τ τ':TH} {fr':Fr} {σ σ':ah}
theorem xw {n m:Nat}:∀ {l:List TV},ltL n m l = true → ∀ i,i < l.length → (l.getD i .undef).lt n m = true
 | [],_,i,hi => by simp at hi
 | v :: r,h,i,hi => by
  simp only [ltL,Bool.and_eq_true] at h
  cases i with
  | zero => simpa using h.1
  | succ i => simpa using xw h.2 i (by simpa using hi)
def Own.cut (n:Nat):Own → Own
 | .obj id => if id < n then .obj id else .none
 | .cell id j => if id < n then .cell id j else .none
 | o => o
theorem zbmt {n:Nat} {o:Own} (h:o.cut n ≠ .none):o.cut n = o:=by
 unfold Own.cut at *
 split at h <;> (try split at h) <;> first | exact absurd rfl h | (rename_i hh; simp [hh]) | rfl
theorem zbll {n id:Nat} (h:id < n):(Own.obj id).cut n = .obj id:=by simp [Own.cut,h]
theorem zbls {n id j:Nat} (h:id < n):(Own.cell id j).cut n = .cell id j:=by simp [Own.cut,h]
theorem zbe8 {n id:Nat} {o:Own} (h:o.cut n = .obj id ∨ ∃ j,o.cut n = .cell id j):id < n:=by
 unfold Own.cut at h
 split at h
 · split at h
   · rcases h with h | ⟨_,h⟩ <;> cases h
     assumption
   · rcases h with h | ⟨_,h⟩ <;> cases h
 · split at h
   · rcases h with h | ⟨_,h⟩ <;> cases h
     assumption
   · rcases h with h | ⟨_,h⟩ <;> cases h
 · rename_i h1 h2
   rcases h with h | ⟨j,h⟩
   · exact absurd h (h1 _)
   · exact absurd h (h2 _ _)
theorem TR.clean {n m:Nat} (hn:e'.n = n) (hb:e'.b = e.b) (hw:∀ g i,e.who g = .tok i → e'.who g = .tok i) {v:TV} {w:Value} (h:TR σ e tk v w):v.lt n m = true → TR σ e' (tk.take m) v w:=by
 induction h with
 | undef w => exact fun _ => .undef w
 | pr h => exact fun _ => .pr h
 | slz => exact fun _ => .slz
 | ptr id off h =>
  intro hu
  have:id < n:=by simpa [TV.lt] using hu
  rw [← hb]; exact .ptr id off (by omega)
 | slm id off k sz h =>
  intro hu
  have:id < n:=by simpa [TV.lt] using hu
  rw [← hb]; exact .slm id off k sz (by omega)
 | rptr cs off g o t ws md hat hmd hlen hr => exact fun _ => .rptr cs off g o t ws md hat hmd hlen hr
 | sla tok l w h hlt hl =>
  intro hu
  have:tok < m:=by simpa [TV.lt] using hu
  refine .sla tok l w h (by simp; omega) fun k t hk => ?_
  rw [List.getElem?_take,if_pos this] at hk
  obtain ⟨h1,h2⟩:=hl k t hk
  refine ⟨h1,fun e => ?_⟩
  rcases h2 e with h2 | ⟨q1,g,s,cs,q2,q3,q4,q5⟩
  · exact .inl h2
  · exact .inr ⟨q1,g,s,cs,q2,hw g tok q3,q4,q5⟩
 | slb tok t g hlt hl =>
  intro hu
  have:tok < m:=by simpa [TV.lt] using hu
  refine .slb tok t g (by simp; omega) fun k t' hk h0 => ?_
  rw [List.getElem?_take,if_pos this] at hk
  obtain ⟨h1,h2⟩:=hl k t' hk h0
  exact ⟨hw g tok h1,h2⟩
 | func f a b c d ha hb' h1 h2 ih1 ih2 =>
  intro hu
  simp only [TV.lt,Bool.and_eq_true] at hu
  exact .func f a b c d ha hb' (fun i hi => ih1 i hi (xw hu.1 i hi)) (fun i hi => ih2 i hi (xw hu.2 i hi))
 | agg a c ha h ih =>
  intro hu
  simp only [TV.lt] at hu
  exact .agg a c ha fun i hi => ih i hi (xw hu i hi)
 | tup a c ha h ih =>
  intro hu
  simp only [TV.lt] at hu
  exact .tup a c ha fun i hi => ih i hi (xw hu i hi)
theorem zbfa {τ:TH} {n id:Nat} (h:id < n):(τ.cut n).at id = τ.at id:=by simp [TH.cut,TH.at,List.getElem?_take,h]
theorem zbi0 {τ:TH} {n:Nat}:(τ.cut n).next = min n τ.next:=by simp [TH.cut,TH.next]
theorem zbpl {τ:TH} {n:Nat} (h:τ.next ≤ n):τ.cut n = τ:=by
 unfold TH.cut
 rw [List.take_of_length_le h]
theorem St.cut (h:St B e fr tk τ fr' σ) {n m:Nat} {fr2:TF} (hn:B.e.n ≤ n) (hle:n ≤ τ.next) (hbw:∀ g id,(B.e.who g = .obj id ∨ ∃ j,B.e.who g = .cell id j) → id < B.e.n)
 (hf:∀ t,(lkp fr2 t = lkp fr t ∧ (lkp fr t).lt n m = true) ∨ lkp fr2 t = .undef) :
 St B ⟨e.b,n,fun g => (e.who g).cut n⟩ fr2 (tk.take m) (τ.cut n) fr' σ where
 nx:=h.nx
 keep:=h.keep
 fro:=h.fro
 n0:=hn
 b0:=h.b0
 n:=by rw [zbi0]; simp only; omega
 lo:=h.lo
 mine:=fun g hg => h.mine g (by
  rw [← zbmt (n:=n) (o:=e.who g) (fun h0 => by simp only [h0] at hg; exact hg)]; exact hg)
 wlt:=fun g hg => h.wlt g (by rw [← zbmt hg]; exact hg)
 wid:=fun g id hg => zbe8 hg
 old:=fun g hg hfr => by
  have:=h.old g hg hfr
  simp only
  rw [this]
  cases hq:B.e.who g with
  | obj id => exact zbll (Nat.lt_of_lt_of_le (hbw g id (.inl hq)) hn)
  | cell id j => exact zbls (Nat.lt_of_lt_of_le (hbw g id (.inr ⟨j,hq⟩)) hn)
  | _ => rfl
 ob:=fun id hid => by
  rw [zbi0] at hid
  obtain ⟨b,h1,h2⟩:=h.ob id (by omega)
  refine ⟨b,by rw [zbfa (by omega)]; exact h1,bx.step (e:=e) (.refl _) (fun _ _ => rfl) (by simp only; omega) (fun _ => rfl) (fun q => by simp only; rw [q]; exact zbll (by omega)) (fun g j hg => ⟨by simp only; rw [hg]; exact zbls (by omega),rfl⟩) h2⟩
 fm:=fun t => by
  rcases hf t with ⟨h1,h2⟩ | h1
  · rw [h1]; exact TR.clean (e:=e) (e':=⟨e.b,n,fun g => (e.who g).cut n⟩) (n:=n) rfl rfl (fun g i hg => by simp only [hg]; rfl) (h.fm t) h2
  · rw [h1]; exact .undef _
theorem St.clean (h:St B e fr tk τ fr' σ) (lv:List Nat) {tk0:TK} {τ0:TH} (hn:B.e.n ≤ τ0.next) (hbw:∀ g id,(B.e.who g = .obj id ∨ ∃ j,B.e.who g = .cell id j) → id < B.e.n) :
 ∃ e',St B e' (lm lv tk0 τ0 fr tk τ).1 (lm lv tk0 τ0 fr tk τ).2.1 (lm lv tk0 τ0 fr tk τ).2.2 fr' σ:=by
 unfold lm
 split
 · rename_i hc
   have hf:∀ n,ltL n tk0.length (lv.map fun t => lkp fr t) = true → ∀ t,(lkp (Sh.sel lv fr) t = lkp fr t ∧ (lkp fr t).lt n tk0.length = true) ∨ lkp (Sh.sel lv fr) t = .undef:=fun n hc t => by
    rw [za8t]
    by_cases ht:t ∈ lv
    · rw [if_pos ht]
      refine .inl ⟨rfl,?_⟩
      obtain ⟨i,hi,rfl⟩:=List.mem_iff_getElem.1 ht
      have:=xw hc i (by simpa using hi)
      rwa [ly _ _ _ 0 _ hi,gj (List.getElem?_eq_getElem hi)] at this
    · rw [if_neg ht]; exact .inr rfl
   by_cases hle:τ0.next ≤ τ.next
   · exact ⟨_,h.cut hn hle hbw (hf _ hc)⟩
   · have hle':τ.next ≤ τ0.next:=by omega
     rw [zbpl hle']
     refine ⟨e,⟨h.nx,h.keep,h.fro,h.n0,h.b0,h.n,h.lo,h.mine,h.wlt,h.wid,h.old,h.ob,fun t => ?_⟩⟩
     rcases hf _ hc t with ⟨h1,h2⟩ | h1
     · rw [h1]
       -- all references lie below what is there
       have:TR σ e (tk.take tk0.length) (lkp fr t) (fr' t):=by
        have key:∀ {v:TV} {w:Value},TR σ e tk v w → v.lt τ0.next tk0.length = true → TR σ e (tk.take tk0.length) v w:=fun hv => by
         induction hv with
         | undef w => exact fun _ => .undef w
         | pr h => exact fun _ => .pr h
         | slz => exact fun _ => .slz
         | ptr id off h => exact fun _ => .ptr id off h
         | slm id off k sz h => exact fun _ => .slm id off k sz h
         | rptr cs off g o t ws md hat hmd hlen hr => exact fun _ => .rptr cs off g o t ws md hat hmd hlen hr
         | sla tok l w h hlt hl =>
          intro hu
          have:tok < tk0.length:=by simpa [TV.lt] using hu
          refine .sla tok l w h (by simp; omega) fun k t hk => ?_
          rw [List.getElem?_take,if_pos this] at hk
          exact hl k t hk
         | slb tok t g hlt hl =>
          intro hu
          have:tok < tk0.length:=by simpa [TV.lt] using hu
          refine .slb tok t g (by simp; omega) fun k t' hk h0 => ?_
          rw [List.getElem?_take,if_pos this] at hk
          exact hl k t' hk h0
         | func f a b c d ha hb' h1 h2 ih1 ih2 =>
          intro hu
          simp only [TV.lt,Bool.and_eq_true] at hu
          exact .func f a b c d ha hb' (fun i hi => ih1 i hi (xw hu.1 i hi)) (fun i hi => ih2 i hi (xw hu.2 i hi))
         | agg a c ha h ih =>
          intro hu
          simp only [TV.lt] at hu
          exact .agg a c ha fun i hi => ih i hi (xw hu i hi)
         | tup a c ha h ih =>
          intro hu
          simp only [TV.lt] at hu
          exact .tup a c ha fun i hi => ih i hi (xw hu i hi)
        exact key (h.fm t) h2
       exact this
     · rw [h1]; exact .undef _
 · exact ⟨e,h.sel lv⟩
def zb69 (B:Bs):Prop:=∀ g id,(B.e.who g = .obj id ∨ ∃ j,B.e.who g = .cell id j) → id < B.e.n
def zbm6 (P:Program) (ef:EF):Prop:=∀ c fr tk τ ex fr2 tk2 τ2,ef c fr tk τ = some (ex,fr2,tk2,τ2) → ∀ (N:Nat) (B:Bs) (e:Env) (fr':Fr) (σ:ah),zb69 B → St B e fr tk τ fr' σ → ∀ Q:Exit → Fr → ah → Prop,
 (∀ e' fr2' σ',St B e' fr2 tk2 τ2 fr2' σ' → Q ex.ex fr2' σ') → evC P N c.erase Q fr' σ
theorem zbac {v:TV} {w:Value} {b:Bool} (h:TR σ e tk v w) (hv:v = .bool b):w = .bool b:=by subst hv; exact np h
theorem zbg8 {Γ:FuncId → Option TG} (k:Nat) (hc:ei P (a7 Γ k).1) (he:∀ m,m ≤ k → zbm6 P (a7 Γ m).2):zbm6 P (a7 Γ (k + 1)).2:=by
 intro c fr tk τ ex fr2 tk2 τ2 h N B e fr' σ hB hs Q hQ
 have h:bb (a7 Γ k) c fr tk τ = some (ex,fr2,tk2,τ2):=h
 cases c with
 | skip =>
  simp only [bb,Option.some.injEq,Prod.mk.injEq] at h
  obtain ⟨rfl,rfl,rfl,rfl⟩:=h
  exact hQ e fr' σ hs
 | ops l =>
  simp only [bb] at h
  obtain ⟨⟨q1,q2,q3⟩,ho,hq⟩:=Option.map_eq_some_iff.1 h
  simp only [Prod.mk.injEq] at hq
  obtain ⟨rfl,rfl,rfl,rfl⟩:=hq
  exact zakt hc l ho hs (Q .normal) hQ
 | draw l =>
  simp only [bb] at h
  obtain ⟨⟨q1,q2,q3⟩,ho,hq⟩:=Option.map_eq_some_iff.1 h
  simp only [Prod.mk.injEq] at hq
  obtain ⟨rfl,rfl,rfl,rfl⟩:=hq
  exact zb4x hc l l 0 (fun j => by simp) ho hs (fun p hp => by simp at hp) (Q .normal) hQ
 | drawT l t =>
  simp only [bb] at h
  obtain ⟨q,ho,hq⟩:=Option.map_eq_some_iff.1 h
  simp only [Prod.mk.injEq] at hq
  obtain ⟨rfl,rfl⟩:=hq
  exact zb5o hc l t ho hs (fun p hp => by simp at hp) (Q .normal) hQ
 | seq a b =>
  simp only [bb] at h
  split at h
  · rename_i fr1 tk1 τ1 h1
    refine he k (Nat.le_refl _) a _ _ _ _ _ _ _ h1 N B e fr' σ hB hs _ fun e' fr1' σ' q => ?_
    exact he k (Nat.le_refl _) b _ _ _ _ _ _ _ h N B e' fr1' σ' hB q Q hQ
  · rename_i hne
    refine he k (Nat.le_refl _) a _ _ _ _ _ _ _ h N B e fr' σ hB hs _ fun e' fr1' σ' q => ?_
    have:=hQ e' fr1' σ' q
    cases ex with
    | normal => exact absurd h (hne _ _ _)
    | exit id => exact this
    | ret => exact this
 | cond c a b =>
  simp only [bb] at h
  have hx:=hs.op c
  split at h
  · rename_i hc1
    have e1:=zbac hx hc1
    simp only [TC.erase,evC,e1,pj]
    exact ⟨fun _ => he k (Nat.le_refl _) a _ _ _ _ _ _ _ h N B e fr' σ hB hs Q hQ,fun h => (nomatch h)⟩
  · rename_i hc1
    have e1:=zbac hx hc1
    simp only [TC.erase,evC,e1,pj]
    exact ⟨fun h => (nomatch h),fun _ => he k (Nat.le_refl _) b _ _ _ _ _ _ _ h N B e fr' σ hB hs Q hQ⟩
  · cases h
 | block id lv a =>
  simp only [bb] at h
  split at h
  · rename_i ex1 fr1 tk1 τ1 h1
    refine he k (Nat.le_refl _) a _ _ _ _ _ _ _ h1 N B e fr' σ hB hs _ fun e' fr1' σ' q => ?_
    split at h
    · rename_i hx
      simp only [Option.some.injEq,Prod.mk.injEq] at h
      obtain ⟨rfl,h2⟩:=h
      obtain ⟨e2,q2⟩:=q.clean lv (tk0:=tk) (τ0:=τ) (by rw [← hs.n]; exact hs.n0) hB
      rw [h2] at q2
      have:=hQ e2 fr1' σ' q2
      rcases hx with rfl | rfl
      · exact this
      · simp only [TEx.ex,zbmp,if_true]; exact this
    · rename_i hx
      simp only [Option.some.injEq,Prod.mk.injEq] at h
      obtain ⟨rfl,rfl,rfl,rfl⟩:=h
      have:=hQ e' fr1' σ' q
      cases ex1 with
      | normal => exact absurd (.inl rfl) hx
      | exit j =>
       simp only [TEx.ex,zbmp]
       rw [if_neg (fun hj => hx (.inr (by rw [hj])))]
       exact this
      | ret => exact this
  · cases h
 | loop lv a =>
  simp only [TC.erase,evC]
  refine zamv (ι:=Nat) (fun n fr1' σ1 => n ≤ k + 1 ∧ ∃ e1 fr1 tk1 τ1,(a7 Γ n).2 (.loop lv a) fr1 tk1 τ1 = some (ex,fr2,tk2,τ2) ∧ St B e1 fr1 tk1 τ1 fr1' σ1) (fun n => n) (k + 1) ⟨Nat.le_refl _,e,fr,tk,τ,h,hs⟩ ?_
  rintro n fr1' σ1 ⟨hnk,e1,fr1,tk1,τ1,h1,hs1⟩
  cases n with
  | zero => cases h1
  | succ m =>
   have h1:bb (a7 Γ m) (.loop lv a) fr1 tk1 τ1 = some (ex,fr2,tk2,τ2):=h1
   simp only [bb] at h1
   split at h1
   · rename_i fr3 tk3 τ3 h3
     refine he m (by omega) a _ _ _ _ _ _ _ h3 N B e1 fr1' σ1 hB (hs1.sel lv) _ fun e' fr3' σ' q => ?_
     obtain ⟨e2,q2⟩:=q.clean lv (tk0:=tk1) (τ0:=τ1) (by rw [← hs1.n]; exact hs1.n0) hB
     exact ⟨m,Nat.lt_succ_self _,by omega,e2,_,_,_,h1,q2⟩
   · rename_i hne
     refine he m (by omega) a _ _ _ _ _ _ _ h1 N B e1 fr1' σ1 hB (hs1.sel lv) _ fun e' fr3' σ' q => ?_
     have:=hQ e' fr3' σ' q
     cases ex with
     | normal => exact absurd h1 (hne _ _ _)
     | exit id => exact this
     | ret => exact this
 | exit id =>
  simp only [bb,Option.some.injEq,Prod.mk.injEq] at h
  obtain ⟨rfl,rfl,rfl,rfl⟩:=h
  exact hQ e fr' σ hs
 | ret lv =>
  simp only [bb,Option.some.injEq,Prod.mk.injEq] at h
  obtain ⟨rfl,rfl,rfl,rfl⟩:=h
  exact hQ e fr' σ (hs.sel lv)
 | clean lv a =>
  exact he k (Nat.le_refl _) a _ _ _ _ _ _ _ h N B e fr' σ hB (hs.sel lv) Q hQ
theorem zbvv (hs:St B e fr tk τ fr' σ) {r:R} {v:TV} (h:uo fr τ r = some v):∃ w,ug fr' σ r = some w ∧ TR σ e tk v w:=by
 cases r with
 | tmp t => injection h with h; subst h; exact ⟨_,rfl,hs.fm t⟩
 | cell1 t =>
  simp only [uo] at h
  have ht:=hs.fm t
  split at h
  · rename_i id off hz
    rw [hz] at ht
    obtain ⟨hid,e1⟩:=n6 ht
    obtain ⟨w,h1,h2⟩:=za79 hs hid h
    exact ⟨w,by simp only [ug,e1,zbcx]; exact h1,h2⟩
  · cases h
 | cellN t n =>
  simp only [uo] at h
  have ht:=hs.fm t
  split at h
  · rename_i id off hz
    rw [hz] at ht
    obtain ⟨hid,e1⟩:=n6 ht
    split at h
    · cases h
    rename_i hn0
    obtain ⟨l,hl,rfl⟩:=Option.map_eq_some_iff.1 h
    obtain ⟨ws,h1,h2,h3,h4⟩:=za78 hs hid hn0 hl
    exact ⟨.agg ws.toArray,by simp only [ug,e1,zbcx,h1,Option.map_some],.agg _ _ (by simpa using h2) fun j hj => by rw [bh]; exact h4 j hj⟩
  · cases h
theorem zbxp (hs:St B e fr tk τ fr' σ):∀ {rs:List R} {vs:List TV},o6 fr τ rs = some vs → ∃ ws,ux fr' σ rs = some ws ∧ vs.length = ws.length ∧ ∀ i,i < vs.length → TR σ e tk (vs.getD i .undef) (ws.getD i undef)
 | [],vs,h => by injection h with h; subst h; exact ⟨[],rfl,rfl,fun i hi => by simp at hi⟩
 | r :: l,vs,h => by
  simp only [o6] at h
  split at h
  · rename_i x y hx hy
    injection h with h; subst h
    obtain ⟨w,h1,h2⟩:=zbvv hs hx
    obtain ⟨ws,g1,g2,g3⟩:=zbxp hs hy
    refine ⟨w :: ws,by simp only [ux,h1,g1],by simp [g2],fun i hi => ?_⟩
    cases i with
    | zero => simpa using h2
    | succ i => simpa using g3 i (by simpa using hi)
  · cases h
theorem zbga (hs:St B e fr tk τ fr' σ) {rs:List R} {v:TV} (h:ek rs fr τ = some v) (K:Value → Prop) (hK:∀ w,TR σ e tk v w → K w):zbd4 rs fr' σ K:=by
 have key:∀ vs,o6 fr τ rs = some vs → TV.tup vs = v → mq (ux fr' σ rs) (fun l => K (.tuple l.toArray)):=by
  intro vs hv he
  subst he
  obtain ⟨ws,h1,h2,h3⟩:=zbxp hs hv
  rw [h1]
  exact hK _ (.tup _ _ (by simpa using h2) fun i hi => by rw [bh]; exact h3 i hi)
 cases rs with
 | nil =>
  obtain ⟨vs,hv,he⟩:=Option.map_eq_some_iff.1 (show (o6 fr τ []).map .tup = some v from h)
  exact key vs hv he
 | cons r l =>
  cases l with
  | nil =>
   obtain ⟨w,h1,h2⟩:=zbvv hs (show uo fr τ r = some v from h)
   show mq (ug fr' σ r) K
   rw [h1]
   exact hK w h2
  | cons r2 l =>
   obtain ⟨vs,hv,he⟩:=Option.map_eq_some_iff.1 (show (o6 fr τ (r :: r2 :: l)).map .tup = some v from h)
   exact key vs hv he
theorem zb2z:∀ (args:List TV) (k t:Nat),lkp (zbbf k args) t = if k ≤ t ∧ t < k + args.length then args.getD (t - k) .undef else .undef
 | [],k,t => by simp [zbbf,lkp]
 | v :: r,k,t => by
  simp only [zbbf,lkp,zb2z r]
  by_cases h:t = k
  · subst h; simp
  · rw [if_neg h]
    by_cases h2:k ≤ t ∧ t < k + (v :: r).length
    · simp only [List.length_cons] at h2
      rw [if_pos (by omega),if_pos (by simp only [List.length_cons]; omega)]
      have:t - k = (t - (k + 1)) + 1:=by omega
      rw [this]; rfl
    · simp only [List.length_cons] at h2
      rw [if_neg (by omega),if_neg (by simp only [List.length_cons]; omega)]
def GOK (P:Program) (Γ:FuncId → Option TG):Prop:=∀ f,match Γ f with
 | some (.code fn) => ∃ H,ud P H f = some (fn.n,fn.c.erase,fn.rs)
 | some (.prim g) => ∀ args τ r τ',g args τ = some (r,τ') → zbbc P f args τ r τ'
 | none => True
theorem zbcl (σ:ah):σ.frz (fun _ => False) = σ:=by
 unfold ah.frz
 congr 1
 funext g
 simp
theorem zbnd (σ:ah) (S:Nat → Prop):ye σ (σ.frz S):=fun g t cs md h hm => by
 by_cases hs:S g
 · exact ⟨.ro,by simp,by rw [(zbik σ S g).1 hs,h]; rfl⟩
 · exact ⟨md,hm,by rw [(zbik σ S g).2 hs]; exact h⟩
theorem zbhl {Γ:FuncId → Option TG} (hΓ:GOK P Γ) {cf:CF} {ef:EF} (he:zbm6 P ef):ei P (ku Γ (cf,ef)):=by
 intro f args τ r τ' h
 have hf:=hΓ f
 simp only [ku] at h
 split at h
 · rename_i fn hq
   rw [hq] at hf
   obtain ⟨H,hf⟩:=hf
   split at h
   · rename_i hlen
     split at h
     · rename_i ex fr tk τ1 h1
       split at h
       · rename_i hex
         obtain ⟨v,hv,h⟩:=Option.bind_eq_some_iff.1 h
         intro σ e ws hr hnt hlw hargs
         have hB:zb69 ⟨σ,e,τ.lock⟩:=hr.wid
         have entry:St ⟨σ,e,τ.lock⟩ e (zbbf 0 args) [] τ (nn ws) σ:={
          nx:=Nat.le_refl _
          keep:=fun _ _ _ => rfl
          fro:=.refl _
          n0:=Nat.le_refl _
          b0:=fun _ _ => rfl
          n:=hr.n
          lo:=rfl
          mine:=fun g hg => by
           cases hq2:e.who g with
           | none => rw [hq2] at hg; exact hg.elim
           | obj id => rw [hq2] at hg; exact .inr ⟨id,hg,.inl hq2⟩
           | cell id j => rw [hq2] at hg; exact .inr ⟨id,hg,.inr ⟨j,hq2⟩⟩
           | tok i => exact absurd hq2 (hnt g i)
          wlt:=hr.wlt
          wid:=hr.wid
          old:=fun _ _ _ => rfl
          ob:=hr.ob
          fm:=fun t => by
           rw [zb2z]
           split
           · rename_i ht
             simp only [Nat.sub_zero,nn]
             exact hargs t (by omega)
           · exact .undef _ }
         refine im.ghost (za92 hf (by rw [← hlw]; exact hlen) ?_)
         refine he fn.c _ _ _ _ _ _ _ h1 fn.n _ e _ σ hB entry _ fun e1 fr' σ' q => ?_
         have fin:zbd4 fn.rs fr' σ' (fun w => ∃ S e',Aft ⟨σ,e,τ.lock⟩ e' τ' (σ'.frz S) ∧ TR (σ'.frz S) e' [] r w):=by
          refine zbga q hv _ fun w hw0 => ?_
          have hw:=zbpp hw0
          have oldn:∀ n,e.n ≤ n → ∀ g,g < σ.next → ¬ Bs.free ⟨σ,e,τ.lock⟩ g → ((e1.who g).noTok).cut n = e.who g:=fun n hn g hg hfr => by
           have:=q.old g hg hfr
           simp only at this
           rw [this]
           cases hq2:e.who g with
           | obj id => exact zbll (Nat.lt_of_lt_of_le (hr.wid g id (.inl hq2)) hn)
           | cell id j => exact zbls (Nat.lt_of_lt_of_le (hr.wid g id (.inr ⟨j,hq2⟩)) hn)
           | tok i => exact absurd hq2 (hnt g i)
           | none => rfl
          have ntc:∀ (o:Own) n i,(o.noTok).cut n ≠ .tok i:=fun o n i => by
           cases o <;> simp [Own.noTok,Own.cut] <;> split <;> simp
          have aft:∀ n,e.n ≤ n → n ≤ τ1.next → Aft0 ⟨σ,e,τ.lock⟩ ⟨e1.b,n,fun g => ((e1.who g).noTok).cut n⟩ (τ1.cut n) σ':=fun n hn hle => {
           hr:={
            n:=by rw [zbi0]; simp only; omega
            wlt:=fun g hg => q.wlt g (zbnj (by rw [← zbmt hg]; exact hg))
            wid:=fun g id hg => zbe8 hg
            ob:=fun id hid => by
             rw [zbi0] at hid
             obtain ⟨b,h1,h2⟩:=q.ob id (by omega)
             refine ⟨b,by rw [zbfa (by omega)]; exact h1,bx.step (e:=e1) (.refl _) (fun _ _ => rfl) (by simp only; omega) (fun _ => rfl) (fun q => by simp only; rw [q]; exact zbll (by omega)) (fun g j hg => ⟨by simp only; rw [hg]; exact zbls (by omega),rfl⟩) h2⟩ }
           nx:=q.nx
           keep:=q.keep
           fro:=q.fro
           n0:=hn
           b0:=q.b0
           old:=oldn n hn
           notok:=fun g i => ntc _ _ _ }
          have hlo:τ1.lock = τ.lock:=q.lo
          have hn1:e.n ≤ τ1.next:=by rw [← q.n]; exact q.n0
          split at h
          · -- the objects are read alone from now on
            obtain ⟨u,hu,h⟩:=Option.bind_eq_some_iff.1 h
            simp only [Option.some.injEq,Prod.mk.injEq] at h
            obtain ⟨rfl,rfl⟩:=h
            have ns:∀ g,(∀ id,e1.who g = .obj id → id < τ.next) → ¬ ∃ id,τ.next ≤ id ∧ e1.who g = .obj id:=fun g hg ⟨id,h1,h2⟩ => by have:=hg id h2; omega
            have vw:zbie σ' e1 τ.next (σ'.frz fun g => ∃ id,τ.next ≤ id ∧ e1.who g = .obj id):=⟨zbnd _ _,fun id t cs h1 h2 h3 => by rw [(zbik σ' _ _).1 ⟨id,h1,h2⟩,h3]; rfl⟩
            have a:=aft τ.next (Nat.le_of_eq hr.n) (by rw [← hr.n]; exact hn1)
            have a2:Aft0 ⟨σ,e,τ.lock⟩ ⟨e1.b,τ.next,fun g => ((e1.who g).noTok).cut τ.next⟩ (τ1.cut τ.next) (σ'.frz fun g => ∃ id,τ.next ≤ id ∧ e1.who g = .obj id):={
             hr:={
              n:=a.hr.n
              wlt:=a.hr.wlt
              wid:=a.hr.wid
              ob:=fun id hid => by
               obtain ⟨b,h1,h2⟩:=a.hr.ob id hid
               have hid2:id < τ.next:=by rw [zbi0] at hid; omega
               have own:∀ {g:Nat} {o:Own},o ≠ .none → ((e1.who g).noTok).cut τ.next = o → (e1.who g).noTok = o:=fun ho hq => by rw [← hq]; exact (zbmt (by rw [hq]; exact ho)).symm
               refine ⟨b,h1,bx.step (e:=⟨e1.b,τ.next,fun g => ((e1.who g).noTok).cut τ.next⟩) (zbnd _ _) (fun _ _ => rfl) (by simp only; omega) (fun qq => ?_) (fun qq => qq) (fun g j hg => ⟨hg,?_⟩) h2⟩
               · refine (zbik σ' _ _).2 (ns _ fun k hk => ?_)
                 have:=zbh6.1 (own (by simp) qq)
                 rw [this] at hk; injection hk with hk; omega
               · refine (zbik σ' _ _).2 (ns _ fun k hk => ?_)
                 have:=uc.1 (own (by simp) hg)
                 rw [this] at hk; cases hk }
             nx:=a.nx
             keep:=fun g hg hfr => by
              have hns:¬ ∃ id,τ.next ≤ id ∧ e1.who g = .obj id:=ns g fun id hid => by
               have:=q.old g hg hfr
               simp only at this
               rw [this] at hid
               have:=hr.wid g id (.inl hid)
               have:=hr.n
               omega
              simp only [ah.frz,if_neg hns]
              exact a.keep g hg hfr
             fro:=a.fro.trans (zbnd _ _)
             n0:=a.n0
             b0:=a.b0
             old:=a.old
             notok:=a.notok }
            exact ⟨_,_,⟨a2,hlo⟩,zbda q vw hu hw0 _ _⟩
          refine ⟨fun _ => False,?_⟩
          rw [zbcl]
          split at h
          · rename_i hu
            simp only [Option.some.injEq,Prod.mk.injEq] at h
            obtain ⟨rfl,rfl⟩:=h
            refine ⟨_,⟨aft τ.next (Nat.le_of_eq hr.n) (by rw [← hr.n]; exact hn1),hlo⟩,?_⟩
            exact TR.cut (e:=e1) (e':=⟨e1.b,τ.next,fun g => ((e1.who g).noTok).cut τ.next⟩) (.refl _) (fun _ _ => rfl) (Nat.le_refl _) hw hu
          · split at h
            · rename_i hu
              simp only [Option.some.injEq,Prod.mk.injEq] at h
              obtain ⟨rfl,rfl⟩:=h
              have a:=aft τ1.next hn1 (Nat.le_refl _)
              rw [zbpl (Nat.le_refl _)] at a
              exact ⟨_,⟨a,hlo⟩,TR.cut (e:=e1) (e':=⟨e1.b,τ1.next,fun g => ((e1.who g).noTok).cut τ1.next⟩) (.refl _) (fun _ _ => rfl) (Nat.le_refl _) hw hu⟩
            · cases h
         rcases hex with rfl | rfl
         · exact fin
         · exact fin
       · cases h
     · cases h
   · cases h
 · rename_i g hq
   rw [hq] at hf
   exact hf _ _ _ _ h
 · cases h
theorem zbit {Γ:FuncId → Option TG} (hΓ:GOK P Γ):∀ k,ei P (a7 Γ k).1 ∧ ∀ m,m ≤ k → zbm6 P (a7 Γ m).2
 | 0 => by
  refine ⟨fun f args τ r τ' h => (by cases h),fun m hm => ?_⟩
  obtain rfl:m = 0:=by omega
  exact fun c fr tk τ ex fr2 tk2 τ2 h => (by cases h)
 | k + 1 => by
  obtain ⟨h1,h2⟩:=zbit hΓ k
  refine ⟨zbhl hΓ (h2 k (Nat.le_refl _)),fun m hm => ?_⟩
  by_cases hmk:m = k + 1
  · subst hmk; exact zbg8 k h1 h2
  · exact h2 m (by omega)
end
end Go.Proofs.Ytgkkienmocpnbaa.Sh
