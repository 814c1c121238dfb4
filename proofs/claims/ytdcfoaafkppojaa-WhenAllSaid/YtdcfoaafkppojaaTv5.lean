/- The tree level: calls. -/
import Derived.Test.YtdcfoaafkppojaaTv4d
set_option linter.unusedVariables false
set_option linter.unusedSimpArgs false
namespace Go.Proofs.Ytdcfoaafkppojaa.Sh
open Go Go.RowKit
structure HR (e : Env) (τ : TH) (σ : ak) : Prop where
  n : e.n = τ.next
  wlt : ∀ g,e.who g ≠ .none → g < σ.next
  wid : ∀ g id,(e.who g = .obj id ∨ ∃ j,e.who g = .cell id j) → id < e.n
  ob : ∀ id,id < τ.next → ∃ b,τ.at id = some b ∧ zaru σ e id b
structure Aft0 (B : Bs) (e' : Env) (τ' : TH) (σ' : ak) : Prop where
  hr : HR e' τ' σ'
  nx : B.σ.next ≤ σ'.next
  keep : ∀ g,g < B.σ.next → ¬ B.free g → σ'.blk g = B.σ.blk g
  fro : zg B.σ σ'
  n0 : B.e.n ≤ e'.n
  b0 : ∀ id,id < B.e.n → e'.b id = B.e.b id
  old : ∀ g,g < B.σ.next → ¬ B.free g → e'.who g = B.e.who g
  notok : ∀ g i,e'.who g ≠ .tok i
structure Aft (B : Bs) (e' : Env) (τ' : TH) (σ' : ak) : Prop extends Aft0 B e' τ' σ' where
  lock : τ'.lock = B.lo
def za2z (P : Program) (f : FuncId) (args : List TV) (τ : TH) (r : TV) (τ' : TH) : Prop :=
  ∀ (σ : ak) (e : Env) (ws : List Value),HR e τ σ → (∀ g i,e.who g ≠ .tok i) → args.length = ws.length → (∀ i,i < args.length → TR σ e [] (args.getD i .undef) (ws.getD i undef)) →
    io P f ws σ fun w σ' => ∃ e',Aft ⟨σ,e,τ.lock⟩ e' τ' σ' ∧ TR σ' e' [] r w
def CFOK (P : Program) (cf : CF) : Prop := ∀ f args τ r τ',cf f args τ = some (r,τ') → za2z P f args τ r τ'
def Own.noTok : Own → Own
  | .tok _ => .none
  | o => o
section
variable {P : Program} {B : Bs} {e e' : Env} {fr : TF} {tk tk' : TK} {τ τ' : TH} {fr' : Fr} {σ σ' : ak}
theorem za49 {o : Own} : o.noTok ≠ .none → o ≠ .none := by cases o <;> simp [Own.noTok]
theorem zakd {o : Own} {id : Nat} : o.noTok = .obj id ↔ o = .obj id := by cases o <;> simp [Own.noTok]
theorem zaeq {o : Own} {id j : Nat} : o.noTok = .cell id j ↔ o = .cell id j := by cases o <;> simp [Own.noTok]
theorem St.hr (h : St B e fr tk τ fr' σ) : HR ⟨e.b,e.n,fun g => (e.who g).noTok⟩ τ σ where
  n := h.n
  wlt := fun g hg => h.wlt g (za49 hg)
  wid := fun g id hg => h.wid g id (by simpa only [zakd,zaeq] using hg)
  ob := fun id hid => by
    obtain ⟨b,h1,h2⟩ := h.ob id hid
    exact ⟨b,h1,zaru.step (e := e) (.refl _) (fun _ _ => rfl) (by have := h.n; simp only; omega) (fun _ => rfl) (fun q => zakd.2 q) (fun g j hg => ⟨zaeq.2 hg,rfl⟩) h2⟩
theorem mine_noTok {lo : Nat} {o : Own} (h : o.noTok.mine lo) : o.mine lo := by cases o <;> first | exact h | exact h.elim
theorem St.after (h : St B e fr tk τ fr' σ) {lo : Nat} (hlo : B.lo ≤ lo) {e2 : Env} (ha : Aft0 ⟨σ,⟨e.b,e.n,fun g => (e.who g).noTok⟩,lo⟩ e2 τ' σ') (hlk : τ'.lock = τ.lock) :
    ∃ e3 : Env,e3.b = e2.b ∧ e3.n = e2.n ∧ St B e3 fr tk τ' fr' σ' ∧ (∀ g,g < σ.next → (∀ id,lo ≤ id → e.who g ≠ .obj id ∧ ∀ j,e.who g ≠ .cell id j) → σ'.blk g = σ.blk g) := by
  have fr1 : ∀ g,g < σ.next → (∀ id,lo ≤ id → e.who g ≠ .obj id ∧ ∀ j,e.who g ≠ .cell id j) → ¬ Bs.free ⟨σ,⟨e.b,e.n,fun g => (e.who g).noTok⟩,lo⟩ g := fun g hg hn hf => by
    rcases hf with hf | ⟨id,h1,h2⟩
    · exact absurd hg (Nat.not_lt.2 hf)
    · rcases h2 with h2 | ⟨j,h2⟩
      · exact (hn id h1).1 (zakd.1 h2)
      · exact (hn id h1).2 j (zaeq.1 h2)
  have blk : ∀ g,g < σ.next → (∀ id,lo ≤ id → e.who g ≠ .obj id ∧ ∀ j,e.who g ≠ .cell id j) → σ'.blk g = σ.blk g := fun g hg hn => ha.keep g hg (fr1 g hg hn)
  have who1 : ∀ g,g < σ.next → (∀ id,lo ≤ id → e.who g ≠ .obj id ∧ ∀ j,e.who g ≠ .cell id j) → e2.who g = (e.who g).noTok := fun g hg hn => ha.old g hg (fr1 g hg hn)
  have tokn : ∀ g i,e.who g = .tok i → ∀ id,lo ≤ id → e.who g ≠ .obj id ∧ ∀ j,e.who g ≠ .cell id j := fun g i hg id _ => by rw [hg]; exact ⟨by simp,by simp⟩
  have ato : ∀ g,g < σ.next → σ'.blk g = σ.blk g → σ'.at g = σ.at g := fun g hg hb => by rw [ak.at_lt hg,ak.at_lt (Nat.lt_of_lt_of_le hg ha.nx)]; exact hb
  let W : Nat → Own := fun g => match e.who g with | .tok i => .tok i | _ => e2.who g
  have Wt : ∀ g i,e.who g = .tok i → W g = .tok i := fun g i hg => by simp only [W,hg]
  have Wn : ∀ g,(∀ i,e.who g ≠ .tok i) → W g = e2.who g := fun g hg => by
    simp only [W]
  have e2t : ∀ g i,e.who g = .tok i → e2.who g = .none := fun g i hg => by
    have hl := h.wlt g (by rw [hg]; simp)
    have := who1 g hl (tokn g i hg)
    rw [this,hg]; rfl
  have Wo : ∀ g id,e2.who g = .obj id → W g = .obj id := fun g id hg => by
    rw [Wn g (fun i hi => by rw [e2t g i hi] at hg; cases hg)]; exact hg
  have Wc : ∀ g id j,e2.who g = .cell id j → W g = .cell id j := fun g id j hg => by
    rw [Wn g (fun i hi => by rw [e2t g i hi] at hg; cases hg)]; exact hg
  have Wne : ∀ g,W g ≠ .none → (∃ i,e.who g = .tok i) ∨ W g = e2.who g := fun g hg => by
    cases hq : e.who g with
    | tok i => exact .inl ⟨i,rfl⟩
    | _ => exact .inr (Wn g (by rw [hq]; simp))
  have ow : ∀ g,g < σ.next → ¬ (e.who g).mine B.lo → e2.who g = (e.who g).noTok := fun g hg hm => who1 g hg fun id hid => ⟨fun hq => hm (by rw [hq]; exact Nat.le_trans hlo hid),fun j hq => hm (by rw [hq]; exact Nat.le_trans hlo hid)⟩
  refine ⟨⟨e2.b,e2.n,W⟩,rfl,rfl,?_,blk⟩
  refine h.step ⟨ha.fro,ha.n0,ha.b0,fun _ h => h,fun i n t hi hn => ⟨n,t,hn,.inl ⟨rfl,.inl rfl,fun g hg => ⟨Wt g i hg,?_⟩⟩⟩⟩ ha.nx (fun g hg hm => ?_) ha.hr.n hlk (fun g hg => ?_) (fun g hg => ?_) (fun g id hg => ?_) (fun g hg hm => ?_) (fun id hid => ?_)
  · have hl := h.wlt g (by rw [hg]; simp)
    exact ato g hl (blk g hl (tokn g i hg))
  · exact blk g hg fun id hid => ⟨fun hq => hm (by rw [hq]; exact Nat.le_trans hlo hid),fun j hq => hm (by rw [hq]; exact Nat.le_trans hlo hid)⟩
  · -- mine
    by_cases hl : g < σ.next
    · refine h.mine g (Classical.byContradiction fun hm => ?_)
      have hnt : ∀ i,e.who g ≠ .tok i := fun i hi => hm (by rw [hi]; trivial)
      have hg' : (W g).mine B.lo := hg
      rw [Wn g hnt,ow g hl hm] at hg'
      exact hm (mine_noTok hg')
    · exact .inl (Nat.le_trans h.nx (Nat.not_lt.1 hl))
  · rcases Wne g hg with ⟨i,hi⟩ | hq
    · exact Nat.lt_of_lt_of_le (h.wlt g (by rw [hi]; simp)) ha.nx
    · simp only [hq] at hg; exact ha.hr.wlt g hg
  · refine ha.hr.wid g id ?_
    cases hq : e.who g with
    | tok i =>
      have : W g = .tok i := Wt g i hq
      simp only [this] at hg
      rcases hg with hg | ⟨_,hg⟩ <;> cases hg
    | _ => rw [← Wn g (by rw [hq]; simp)]; exact hg
  · have hnt : ∀ i,e.who g ≠ .tok i := fun i hi => hm (by rw [hi]; trivial)
    simp only
    rw [Wn g hnt,ow g hg hm]
    cases hq : e.who g with
    | tok i => exact absurd hq (hnt i)
    | _ => rfl
  · obtain ⟨b,h1,h2⟩ := ha.hr.ob id hid
    exact ⟨b,h1,zaru.step (e := e2) (.refl _) (fun _ _ => rfl) (by have := ha.hr.n; simp only; omega) (fun _ => rfl) (fun q => Wo _ _ q) (fun g j hg => ⟨Wc g id j hg,rfl⟩) h2⟩
theorem args_tr {m : Nat} {args : List TV} {ws : List Value} (hu : fw e.n args = true) (h : ∀ i,i < args.length → TR σ e tk (args.getD i .undef) (ws.getD i undef)) :
    ∀ i,i < args.length → TR σ ⟨e.b,e.n,fun g => (e.who g).noTok⟩ [] (args.getD i .undef) (ws.getD i undef) := fun i hi =>
  TR.cut (e := e) (e' := ⟨e.b,e.n,fun g => (e.who g).noTok⟩) (.refl _) (fun _ _ => rfl) (Nat.le_refl _) (h i hi) (qm hu i hi)
theorem lock_eta (τ : TH) (n : Nat) : (τ.locked n).next = τ.next ∧ (∀ id,(τ.locked n).at id = τ.at id) ∧ (τ.locked n).lock = n := ⟨rfl,fun _ => rfl,rfl⟩
theorem HR.locked {e : Env} {τ : TH} {σ : ak} (h : HR e τ σ) (n : Nat) : HR e (τ.locked n) σ := ⟨h.n,h.wlt,h.wid,h.ob⟩
theorem wx {cf : CF} (hcf : CFOK P cf) {lk : Bool} {f : FuncId} {args : List TV} {ws : List Value} {r : TV} (h : zapl cf lk f args tk τ = some (r,tk',τ')) (hs : St B e fr tk τ fr' σ) (hl : args.length = ws.length)
    (ha : ∀ i,i < args.length → TR σ e tk (args.getD i .undef) (ws.getD i undef)) (K : Value → ak → Prop)
    (hK : ∀ e' σ' w,St B e' fr tk' τ' fr' σ' → TR σ' e' tk' r w → Chg (fun _ => lk = false) e σ e' σ' → (lk = true → σ.le σ') → K w σ') : io P f ws σ K := by
  unfold zapl at h
  split at h
  · rename_i hu
    have hu' : fw e.n args = true := by rw [hs.n]; exact hu
    have hargs := args_tr (m := 0) hu' ha
    have nt : ∀ g i,(e.who g).noTok ≠ .tok i := fun g i => by cases e.who g <;> simp [Own.noTok]
    have key : ∀ (lo : Nat) (τ2 : TH),B.lo ≤ lo → (∀ e2 σ2 w,Aft0 ⟨σ,⟨e.b,e.n,fun g => (e.who g).noTok⟩,lo⟩ e2 τ2 σ2 → TR σ2 e2 [] r w → τ2.lock = τ.lock → (lk = true → e.n ≤ lo) → tk' = tk → τ' = τ2 → K w σ2) := by
      intro lo τ2 hlo e2 σ2 w ha2 hr2 hlk2 hlk3 et eτ
      obtain ⟨e3,q1,q2,q3,q4⟩ := hs.after hlo ha2 hlk2
      subst et eτ
      have hrw : TR σ2 e3 tk' r w := hr2.step ⟨.refl _,by rw [q2]; exact Nat.le_refl _,fun id _ => by rw [q1],fun i hi => by simp at hi,fun i n t hi => by simp at hi⟩
      have hle : lk = true → ∀ g,g < σ.next → σ2.blk g = σ.blk g := fun hlk g hg => q4 g hg fun id hid => ⟨fun hq => by have := hs.wid g id (.inl hq); have := hlk3 hlk; omega,fun j hq => by have := hs.wid g id (.inr ⟨j,hq⟩); have := hlk3 hlk; omega⟩
      refine hK e3 σ2 w q3 hrw ⟨ha2.fro,ha2.nx,by rw [q2]; exact ha2.n0,fun id hid => by rw [q1]; exact ha2.b0 id hid,fun id hid hw hn => ?_⟩ (fun hlk => ⟨ha2.nx,hle hlk⟩)
      have hlk : lk = true := by simpa using hn
      have hlt := hs.wlt (e.b id) (by rw [hw]; simp)
      rw [ak.at_lt hlt,ak.at_lt (Nat.lt_of_lt_of_le hlt ha2.nx)]
      exact hle hlk _ hlt
    cases lk with
    | true =>
      obtain ⟨⟨r2,τ2⟩,hc,he⟩ := Option.map_eq_some_iff.1 h
      simp only [Prod.mk.injEq] at he
      obtain ⟨rfl,rfl,rfl⟩ := he
      have c2 := hcf _ _ _ _ _ hc
      refine (c2 σ ⟨e.b,e.n,fun g => (e.who g).noTok⟩ ws (hs.hr.locked _) nt hl hargs).mono fun w σ2 ⟨e2,a1,a2⟩ => ?_
      have a1' : Aft0 ⟨σ,⟨e.b,e.n,fun g => (e.who g).noTok⟩,τ.next⟩ e2 (τ2.locked τ.lock) σ2 := ⟨a1.hr.locked _,a1.nx,a1.keep,a1.fro,a1.n0,a1.b0,a1.old,a1.notok⟩
      by_cases hbl : B.lo ≤ τ.next
      · exact key τ.next _ hbl e2 σ2 w a1' a2 rfl (fun _ => Nat.le_of_eq hs.n) rfl rfl
      · -- all that is there is locked by now
        have nof : ∀ lo g,e.n ≤ lo → (Bs.free ⟨σ,⟨e.b,e.n,fun g => (e.who g).noTok⟩,lo⟩ g ↔ σ.next ≤ g) := fun lo g hlo => by
          constructor
          · rintro (h | ⟨id,h1,h2⟩)
            · exact h
            · have := hs.hr.wid g id h2; simp only at this; simp only at h1; omega
          · exact .inl
        have hn := hs.n
        have a2' : Aft0 ⟨σ,⟨e.b,e.n,fun g => (e.who g).noTok⟩,B.lo⟩ e2 (τ2.locked τ.lock) σ2 := ⟨a1'.hr,a1'.nx,fun g hg hf => a1'.keep g hg (fun hf2 => hf ((nof _ g (by omega)).2 ((nof _ g (by omega)).1 hf2))),a1'.fro,a1'.n0,a1'.b0,fun g hg hf => a1'.old g hg (fun hf2 => hf ((nof _ g (by omega)).2 ((nof _ g (by omega)).1 hf2))),a1'.notok⟩
        exact key B.lo _ (Nat.le_refl _) e2 σ2 w a2' a2 rfl (fun _ => by omega) rfl rfl
    | false =>
      obtain ⟨⟨r2,τ2⟩,hc,he⟩ := Option.map_eq_some_iff.1 h
      simp only [Prod.mk.injEq] at he
      obtain ⟨rfl,rfl,rfl⟩ := he
      have c2 := hcf _ _ _ _ _ hc
      refine (c2 σ ⟨e.b,e.n,fun g => (e.who g).noTok⟩ ws hs.hr nt hl hargs).mono fun w σ2 ⟨e2,a1,a2⟩ => ?_
      exact key τ.lock _ (by rw [hs.lo]; exact Nat.le_refl _) e2 σ2 w a1.toAft0 a2 a1.lock (fun h => by cases h) rfl rfl
  · cases h
end
end Go.Proofs.Ytdcfoaafkppojaa.Sh
