/- The tree level: operations that make or write something. -/
import Derived.Test.YtdcfoaafkppojaaTv3
set_option linter.unusedVariables false
set_option linter.unusedSimpArgs false
namespace Go.Proofs.Ytdcfoaafkppojaa.Sh
open Go Go.RowKit
section
variable {P : Program} {B : Bs} {e e' : Env} {fr : TF} {tk tk' : TK} {τ τ' : TH} {fr' : Fr} {σ σ' : ak}
theorem qm {n : Nat} : ∀ {l : List TV},fw n l = true → ∀ i,i < l.length → (l.getD i .undef).under n = true
  | [],_,i,hi => by simp at hi
  | v :: r,h,i,hi => by
    simp only [fw,Bool.and_eq_true] at h
    cases i with
    | zero => simpa using h.1
    | succ i => simpa using qm h.2 i (by simpa using hi)
theorem TR.cut {m : Nat} (hk : zg σ σ') (hb : ∀ id,id < m → e'.b id = e.b id) (hn : m ≤ e'.n) {v : TV} {w : Value} (h : TR σ e tk v w) : v.under m = true → TR σ' e' tk' v w := by
  induction h with
  | undef w => exact fun _ => .undef w
  | pr h => exact fun _ => .pr (h.mono hk)
  | slz => exact fun _ => .slz
  | ptr id off h =>
    intro hu
    have : id < m := by simpa [TV.under] using hu
    rw [← hb id this]; exact .ptr id off (by omega)
  | slm id off n sz h =>
    intro hu
    have : id < m := by simpa [TV.under] using hu
    rw [← hb id this]; exact .slm id off n sz (by omega)
  | rptr cs off g o t ws md hat hmd hlen hr =>
    intro _
    obtain ⟨m2,h2,h3⟩ := hk g t ws md hat hmd
    exact .rptr cs off g o t ws m2 h3 h2 hlen fun j hj => (hr j hj).mono hk
  | sla => intro hu; simp [TV.under] at hu
  | slb => intro hu; simp [TV.under] at hu
  | func f a b c d ha hb' h1 h2 ih1 ih2 =>
    intro hu
    simp only [TV.under,Bool.and_eq_true] at hu
    exact .func f a b c d ha hb' (fun i hi => ih1 i hi (qm hu.1 i hi)) (fun i hi => ih2 i hi (qm hu.2 i hi))
  | agg a c ha h ih =>
    intro hu
    simp only [TV.under] at hu
    exact .agg a c ha fun i hi => ih i hi (qm hu i hi)
  | tup a c ha h ih =>
    intro hu
    simp only [TV.under] at hu
    exact .tup a c ha fun i hi => ih i hi (qm hu i hi)
theorem CR.step {id j : Nat} {v : TV} {w : Value} (hk : zg σ σ') (hb : ∀ i,i < id + 1 → e'.b i = e.b i) (hn : id + 1 ≤ e'.n) (hc : ∀ g,e.who g = .cell id j → e'.who g = .cell id j ∧ σ'.at g = σ.at g) (h : CR σ e id j v w) : CR σ' e' id j v w := by
  cases v with
  | slo t l =>
    refine ⟨h.1.mono hk,?_⟩
    rcases h.2 with h2 | ⟨hne,g,s,cs,q1,q2,q3,q4⟩
    · exact .inl h2
    · obtain ⟨r1,r2⟩ := hc g q2
      exact .inr ⟨hne,g,s,cs,q1,r1,by rw [r2]; exact q3,q4⟩
  | _ => exact ⟨h.1.cut hk hb hn h.2.1,h.2⟩
theorem zaru.step {id : Nat} {b : Ob} (hk : zg σ σ') (hb : ∀ i,i < id + 1 → e'.b i = e.b i) (hn : id + 1 ≤ e'.n) (hat : e.who (e.b id) = .obj id → σ'.at (e.b id) = σ.at (e.b id)) (hw : e.who (e.b id) = .obj id → e'.who (e.b id) = .obj id)
    (hc : ∀ g j,e.who g = .cell id j → e'.who g = .cell id j ∧ σ'.at g = σ.at g) (h : zaru σ e id b) : zaru σ' e' id b := by
  rcases h with h | ⟨h1,cs,h2,h3,h4⟩
  · exact .inl h
  · exact .inr ⟨by rw [hb id (by omega)]; exact hw h1,cs,by rw [hb id (by omega),hat h1]; exact h2,h3,fun j hj => ⟨(h4 j hj).1.step hk hb hn (fun g => hc g j),(h4 j hj).2⟩⟩
theorem St.step (h : St B e fr tk τ fr' σ) (hs : Stp σ e tk σ' e' tk') (hnx : σ.next ≤ σ'.next) (hbl : ∀ g,g < σ.next → ¬ (e.who g).mine B.lo → σ'.blk g = σ.blk g) (hn : e'.n = τ'.next) (hlo : τ'.lock = τ.lock)
    (hm : ∀ g,(e'.who g).mine B.lo → B.free g) (hw : ∀ g,e'.who g ≠ .none → g < σ'.next) (hwi : ∀ g id,(e'.who g = .obj id ∨ ∃ j,e'.who g = .cell id j) → id < e'.n) (hwk : ∀ g,g < σ.next → ¬ (e.who g).mine B.lo → e'.who g = e.who g) (hob : ∀ id,id < τ'.next → ∃ b,τ'.at id = some b ∧ zaru σ' e' id b) : St B e' fr tk' τ' fr' σ' where
  nx := Nat.le_trans h.nx hnx
  keep := fun g hg hf => by rw [hbl g (Nat.lt_of_lt_of_le hg h.nx) (fun hm => hf (h.mine g hm))]; exact h.keep g hg hf
  fro := h.fro.trans hs.keep
  n0 := Nat.le_trans h.n0 hs.n
  b0 := fun id hid => by rw [hs.b id (Nat.lt_of_lt_of_le hid h.n0)]; exact h.b0 id hid
  n := hn
  lo := hlo.trans h.lo
  mine := hm
  wlt := hw
  wid := hwi
  old := fun g hg hf => by rw [hwk g (Nat.lt_of_lt_of_le hg h.nx) (fun hm => hf (h.mine g hm))]; exact h.old g hg hf
  ob := hob
  fm := fun t => (h.fm t).step hs
structure Chg (S : Nat → Prop) (e : Env) (σ : ak) (e' : Env) (σ' : ak) : Prop where
  keep : zg σ σ'
  nx : σ.next ≤ σ'.next
  n : e.n ≤ e'.n
  b : ∀ id,id < e.n → e'.b id = e.b id
  ob : ∀ id,id < e.n → e.who (e.b id) = .obj id → ¬ S id → σ'.at (e.b id) = σ.at (e.b id)
theorem Chg.refl (S : Nat → Prop) (e : Env) (σ : ak) : Chg S e σ e σ := ⟨.refl _,Nat.le_refl _,Nat.le_refl _,fun _ _ => rfl,fun _ _ _ _ => rfl⟩
theorem tg {σ : ak} {b : Blk} {g : Nat} (h : g < σ.next) : (σ.push b).blk g = σ.blk g := by simp [ak.push]; omega
theorem zal7 {σ : ak} {b : Blk} {g i : Nat} (h : g ≠ i) : (σ.set i b).blk g = σ.blk g := by simp [ak.set,h]
theorem mq {σ : ak} {b : Blk} {g : Nat} (h : g < σ.next) : (σ.push b).at g = σ.at g := σ.at_push_ne b (Nat.ne_of_lt h)
theorem St.wnone (h : St B e fr tk τ fr' σ) : e.who σ.next = .none := by
  cases hq : e.who σ.next with
  | none => rfl
  | _ => exact absurd (h.wlt _ (by rw [hq]; simp)) (Nat.lt_irrefl _)
theorem St.pushRo (h : St B e fr tk τ fr' σ) (b : Blk) : St B e fr tk τ fr' (σ.push b) ∧ Chg (fun _ => False) e σ e (σ.push b) := by
  have hk := zg.push σ b
  have hlt : ∀ g,e.who g ≠ .none → (σ.push b).at g = σ.at g := fun g hg => mq (h.wlt g hg)
  refine ⟨h.step ⟨hk,Nat.le_refl _,fun _ _ => rfl,fun _ h => h,fun i n t hi hn => ⟨n,t,hn,.inl ⟨rfl,.inl rfl,fun g hg => ⟨hg,hlt g (by rw [hg]; simp)⟩⟩⟩⟩ (Nat.le_succ _) (fun g hg _ => tg hg) h.n rfl h.mine
    (fun g hg => Nat.lt_succ_of_lt (h.wlt g hg)) h.wid (fun _ _ _ => rfl) (fun id hid => ?_),hk,Nat.le_succ _,Nat.le_refl _,fun _ _ => rfl,fun id hid q _ => hlt _ (by rw [q]; simp)⟩
  obtain ⟨b',h1,h2⟩ := h.ob id hid
  exact ⟨b',h1,h2.step hk (fun _ _ => rfl) (by rw [h.n]; exact hid) (fun q => hlt _ (by rw [q]; simp)) (fun q => q) fun g j hg => ⟨hg,hlt g (by rw [hg]; simp)⟩⟩
theorem St.newTok (h : St B e fr tk τ fr' σ) (x : Option (Nat × TypeId)) : St B e fr (tk ++ [x]) τ fr' σ := by
  refine h.step ⟨.refl _,Nat.le_refl _,fun _ _ => rfl,fun i hi => by simp; omega,fun i n t hi hn => ?_⟩ (Nat.le_refl _) (fun _ _ _ => rfl) h.n rfl h.mine h.wlt h.wid (fun _ _ _ => rfl) h.ob
  rw [List.getElem?_append_left hi] at hn
  exact ⟨n,t,hn,.inl ⟨rfl,.inl rfl,fun g hg => ⟨hg,rfl⟩⟩⟩
mutual
theorem zalf {n m : Nat} (hnm : n ≤ m) : ∀ v : TV,v.under n = true → v.under m = true
  | .ptr id off,h => by simp only [TV.under,decide_eq_true_eq] at h ⊢; omega
  | .slm id off k sz,h => by simp only [TV.under,decide_eq_true_eq] at h ⊢; omega
  | .func f a b,h => by simp only [TV.under,Bool.and_eq_true] at h ⊢; exact ⟨u7 hnm a h.1,u7 hnm b h.2⟩
  | .agg cs,h => by simp only [TV.under] at h ⊢; exact u7 hnm cs h
  | .tup cs,h => by simp only [TV.under] at h ⊢; exact u7 hnm cs h
  | .sla _ _,h => by simp [TV.under] at h
  | .slb _ _,h => by simp [TV.under] at h
  | .undef,_ => rfl
  | .bool _,_ => rfl
  | .int _ _,_ => rfl
  | .str _,_ => rfl
  | .nilP,_ => rfl
  | .rptr _ _,_ => rfl
  | .slz,_ => rfl
  | .sl _,_ => rfl
  | .slo _ _,_ => rfl
  | .nilM,_ => rfl
  | .nilF,_ => rfl
  | .nilI,_ => rfl
theorem u7 {n m : Nat} (hnm : n ≤ m) : ∀ l : List TV,fw n l = true → fw m l = true
  | [],_ => rfl
  | v :: r,h => by simp only [fw,Bool.and_eq_true] at h ⊢; exact ⟨zalf hnm v h.1,u7 hnm r h.2⟩
end
theorem cr_put {id j n0 : Nat} {v : TV} {w : Value} (hk : zg σ σ') (hb : ∀ i,i < n0 → e'.b i = e.b i) (hn : n0 ≤ e'.n) (hid : n0 ≤ id + 1) (h : TR σ e tk v w) (h1 : v.one = true) (h2 : v.put.under n0 = true) : CR σ' e' id j v.put w := by
  cases v with
  | sla k l => exact ⟨.pr ((pi (v := .sla k l) rfl h).mono hk),rfl,rfl⟩
  | slb k t => obtain ⟨g,rfl,_⟩ := za22 h; exact ⟨.pr (.slE _ _),rfl,rfl⟩
  | slo t l => cases h with | pr h => cases h
  | _ => exact ⟨h.cut hk hb hn h2,zalf hid _ h2,h1⟩
theorem zaik {v : TV} {w : Value} (h : PR σ v w) : scalar w = true := by cases h <;> rfl
theorem zatf {v : TV} {w : Value} (h : TR σ e tk v w) (h1 : v.one = true) : scalar w = true := by
  cases h with
  | undef => cases h1
  | pr h => exact zaik h
  | rptr => rfl
  | sla _ _ _ h => exact zaik h
  | agg => cases h1
  | tup => cases h1
  | _ => rfl
theorem zad9 {id j : Nat} {v : TV} {w : Value} (h : CR σ e id j v w) : scalar w = true := by
  cases v with
  | slo t l => exact zaik h.1
  | _ => exact zatf h.1 h.2.2
theorem yx {τ : TH} {b : Ob} : (τ.push b).at τ.next = some b := by simp [TH.push,TH.at,TH.next]
theorem ur {τ : TH} {b : Ob} {id : Nat} (h : id < τ.next) : (τ.push b).at id = τ.at id := by
  simp only [TH.push,TH.at,TH.next] at *
  exact List.getElem?_append_left h
theorem ep {τ : TH} {b : Ob} : (τ.push b).next = τ.next + 1 := by simp [TH.push,TH.next]
theorem zavu {v : TV} (h : v.cells.all TV.one = true) : v ≠ .undef := by rintro rfl; simp [TV.cells,TV.one] at h
def Env.new (e : Env) (g : Nat) : Env := ⟨fun i => if i = e.n then g else e.b i,e.n + 1,fun k => if k = g then .obj e.n else e.who k⟩
theorem St.pushOb (h : St B e fr tk τ fr' σ) {t : TypeId} {cs : List TV} {ws : List Value} (hl : ws.length = cs.length) (hc : ∀ j,j < ws.length → CR (σ.push (.cells t ws .rw)) (e.new σ.next) τ.next j (cs.getD j .undef) (ws.getD j undef)) :
    St B (e.new σ.next) fr tk (τ.push ⟨t,cs⟩) fr' (σ.push (.cells t ws .rw)) ∧ Chg (fun _ => False) e σ (e.new σ.next) (σ.push (.cells t ws .rw)) := by
  have hk := zg.push σ (.cells t ws .rw)
  have hb : ∀ id,id < e.n → (e.new σ.next).b id = e.b id := fun id hid => by
    have : id ≠ e.n := by omega
    simp [Env.new,this]
  have hlt : ∀ g,e.who g ≠ .none → (σ.push (.cells t ws .rw)).at g = σ.at g := fun g hg => mq (h.wlt g hg)
  have hw : ∀ g,e.who g ≠ .none → (e.new σ.next).who g = e.who g := fun g hg => by
    have : g ≠ σ.next := by have := h.wlt g hg; omega
    simp [Env.new,this]
  have hw' : ∀ g,g ≠ σ.next → (e.new σ.next).who g = e.who g := fun g hg => by simp [Env.new,hg]
  refine ⟨h.step ⟨hk,Nat.le_succ _,hb,fun _ h => h,fun i n t hi hn => ⟨n,t,hn,.inl ⟨rfl,.inl rfl,fun g hg => ⟨by rw [hw g (by rw [hg]; simp)]; exact hg,hlt g (by rw [hg]; simp)⟩⟩⟩⟩ (Nat.le_succ _) (fun g hg _ => tg hg)
    (by simp [Env.new,ep,h.n]) rfl (fun g hg => ?_) (fun g hg => ?_) (fun g id hg => ?_) (fun g hg _ => hw' g (Nat.ne_of_lt hg)) (fun id hid => ?_),hk,Nat.le_succ _,Nat.le_succ _,hb,fun id hid q _ => hlt _ (by rw [q]; simp)⟩
  · by_cases hgn : g = σ.next
    · rw [hgn]; exact .inl h.nx
    · rw [hw' g hgn] at hg; exact h.mine g hg
  · by_cases hgn : g = σ.next
    · rw [hgn]; exact Nat.lt_succ_self _
    · rw [hw' g hgn] at hg; exact Nat.lt_succ_of_lt (h.wlt g hg)
  · by_cases hgn : g = σ.next
    · subst hgn
      have e1 : (e.new σ.next).who σ.next = .obj e.n := by simp [Env.new]
      rw [e1] at hg
      rcases hg with hg | ⟨j,hg⟩
      · injection hg with hg; rw [← hg]; exact Nat.lt_succ_self _
      · cases hg
    · rw [hw' g hgn] at hg; exact Nat.lt_succ_of_lt (h.wid g id hg)
  · rw [ep] at hid
    by_cases hin : id = τ.next
    · subst hin
      refine ⟨_,yx,?_⟩
      have e1 : (e.new σ.next).b τ.next = σ.next := by simp [Env.new,h.n]
      exact .inr ⟨by rw [e1]; simp [Env.new,h.n],ws,by rw [e1]; exact σ.at_push_new _,hl,fun j hj => ⟨hc j hj,zad9 (hc j hj)⟩⟩
    · have hid' : id < τ.next := by omega
      obtain ⟨b',h1,h2⟩ := h.ob id hid'
      refine ⟨b',by rw [ur hid']; exact h1,h2.step hk (fun i hi => hb i (by rw [h.n]; omega)) (by rw [← h.n] at hid'; simp [Env.new]; omega) (fun q => hlt _ (by rw [q]; simp)) (fun q => by rw [hw _ (by rw [q]; simp)]; exact q) fun g j hg => ?_⟩
      exact ⟨by rw [hw g (by rw [hg]; simp)]; exact hg,hlt g (by rw [hg]; simp)⟩
end
end Go.Proofs.Ytdcfoaafkppojaa.Sh
