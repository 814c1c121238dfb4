/- The tree level: objects that are handed on as trees. -/
import Derived.Test.YtdcfoaafkppojaaTv5
set_option linter.unusedVariables false
set_option linter.unusedSimpArgs false
set_option linter.unusedSectionVars false
namespace Go.Proofs.Ytdcfoaafkppojaa.Sh
open Go Go.RowKit
open Classical in
noncomputable def ak.frz (σ : ak) (S : Nat → Prop) : ak := { σ with blk := fun g => if S g then (σ.blk g).ro else σ.blk g }
theorem zay2 (σ : ak) (S : Nat → Prop) (g : Nat) : (S g → (σ.frz S).at g = (σ.at g).ro) ∧ (¬ S g → (σ.frz S).at g = σ.at g) := by
  unfold ak.at ak.frz
  refine ⟨fun h => ?_,fun h => ?_⟩
  · simp only [if_pos h]; split <;> rfl
  · simp only [if_neg h]
theorem Rep.frz {B : Nat} {w0 : World} {σ : ak} {m : Mp} {w : World} (h : Rep B w0 σ m w) (S : Nat → Prop) : Rep B w0 (σ.frz S) m w where
  next := h.next
  below := h.below
  base := h.base
  blk := fun i hi => by
    have hb := h.blk i hi
    simp only [ak.frz]
    split
    · cases hq : σ.blk i with
      | dead => trivial
      | map es => trivial
      | cells t cs md =>
        rw [hq] at hb
        obtain ⟨c,t',fz,h1,h2,h3⟩ := hb
        exact ⟨c,t',fz,h1,h2,fun e => (e rfl).elim⟩
    · exact hb
  apart := fun i j hi hj hij hr hl => by
    simp only [ak.frz] at hr hl ⊢
    split at hr
    · cases hq : σ.blk i <;> rw [hq] at hr <;> simp [Blk.ro,Blk.own] at hr
    · rename_i hsi
      rw [if_neg hsi]
      split
      · rename_i hsj
        rw [if_pos hsj] at hl
        cases hq : σ.blk j with
        | dead => rw [hq] at hl; cases hl
        | map es => rw [hq] at hl; cases hl
        | cells t cs md =>
          have := h.apart i j hi hj hij hr (by rw [hq]; rfl)
          rw [hq] at this
          refine this.imp id fun hs => ?_
          obtain ⟨t1,c1,t2,c2,e1,e2,e3⟩ := sb hs
          rw [e1]
          simp only [Blk.cells.injEq] at e2
          obtain ⟨rfl,rfl,rfl⟩ := e2
          exact e3
      · rename_i hsj
        rw [if_neg hsj] at hl
        exact h.apart i j hi hj hij hr hl
theorem io.ghost {P : Program} {f : FuncId} {ws : List Value} {σ : ak} {Post : Value → ak → Prop} (h : io P f ws σ fun v σ' => ∃ S,Post v (σ'.frz S)) : io P f ws σ Post :=
  ⟨h.1,fun B w0 m w cargs hr hs hv => (h.2 B w0 m w cargs hr hs hv).mono fun e w' ⟨v,c,m',σ',h1,h2,h3,h4,S,h5⟩ => ⟨v,c,m',σ'.frz S,h1,h2,h3,h4.frz S,h5⟩⟩
def flatV : Value → Bool
  | .bool _ | .int _ _ | .string _ => true
  | _ => false
theorem flatV_rel {m m' : Mp} {v c : Value} (h : bu m v c) (hf : flatV v = true) : bu m' v c := by
  cases h <;> first | (cases hf; done) | (exact .bool _) | (exact .int _ _) | (exact .string _)
theorem io.borrow {P : Program} {f : FuncId} {ws : List Value} {σ : ak} {Q : Value → Prop} (h : io P f ws σ.ro fun v _ => flatV v = true ∧ Q v) : io P f ws σ fun v σ' => σ' = σ ∧ Q v :=
  ⟨h.1,fun B w0 m w cargs hr hs hv => (h.2 w.heap.size w m w cargs hr.ro hs hv).mono fun e w' ⟨v,c,m',σ',h1,h2,h3,h4,h5,h6⟩ => ⟨v,c,m,σ,h1,.refl m,flatV_rel h3 h5,hr.later h4.below,rfl,h6⟩⟩
section
variable {P : Program} {B : Bs} {e e' : Env} {fr : TF} {tk tk' : TK} {τ τ' : TH} {fr' : Fr} {σ σ' : ak}
structure View (σ : ak) (e : Env) (n0 : Nat) (σv : ak) : Prop where
  keep : zg σ σv
  ro : ∀ id t cs,n0 ≤ id → e.who (e.b id) = .obj id → σ.at (e.b id) = .cells t cs .rw → σv.at (e.b id) = .cells t cs .ro
theorem View.ofRo (σ : ak) (e : Env) : View σ e 0 σ.ro where
  keep := fun g t cs md h hm => ⟨.ro,by simp,by rw [ak.ro_at,h]; rfl⟩
  ro := fun id t cs _ _ h => by rw [ak.ro_at,h]; rfl
theorem nm (sz : Nat) : ∀ (n : Nat) (l : List TV),(yv sz n l).length = n
  | 0,_ => rfl
  | n + 1,l => by simp only [yv,List.length_cons,nm sz n]
theorem zara (sz : Nat) : ∀ (n : Nat) (l : List TV) (i : Nat),i < n → (yv sz n l).getD i .undef = za57 ((l.drop (i * sz)).take sz)
  | 0,_,_,h => by cases h
  | n + 1,l,0,_ => by simp [yv]
  | n + 1,l,i + 1,h => by
    have := zara sz n (l.drop sz) i (Nat.lt_of_succ_lt_succ h)
    simp only [yv,List.getD_cons_succ,this,List.drop_drop]
    congr 3
    rw [Nat.add_mul]; omega
theorem zaut {f : TV → Option TV} : ∀ {l l' : List TV},zalh f l = some l' → l'.length = l.length ∧ ∀ i,i < l.length → f (l.getD i .undef) = some (l'.getD i .undef)
  | [],l',h => by injection h with h; subst h; exact ⟨rfl,fun i hi => by cases hi⟩
  | v :: r,l',h => by
    simp only [zalh] at h
    split at h
    · rename_i x y hx hy
      injection h with h; subst h
      obtain ⟨h1,h2⟩ := zaut hy
      refine ⟨by simp [h1],fun i hi => ?_⟩
      cases i with
      | zero => exact hx
      | succ i => exact h2 i (Nat.lt_of_succ_lt_succ hi)
    · cases h
theorem tfzS_ok (hs : St B e fr tk τ fr' σ) {n0 : Nat} {σv : ak} (hv : View σ e n0 σv) : ∀ (k : Nat) (v u : TV) (w : Value),zan6 τ n0 k v = some u → TR σ e tk v w → u.pureS = true ∧ PR σv u w := by
  have plain : ∀ (v u : TV) (w : Value),(if v.canS.pureS then some v.canS else none) = some u → TR σ e tk v w → u.pureS = true ∧ PR σv u w := fun v u w h ht => by
    split at h
    · rename_i hp
      injection h with h; subst h
      exact ⟨hp,(zaur (zazm ht) hp).mono hv.keep⟩
    · cases h
  intro k
  induction k with
  | zero => exact fun v u w h ht => plain v u w (by simpa [zan6] using h) ht
  | succ k ih =>
    intro v u w h ht
    cases v with
    | slm id off n sz =>
      simp only [zan6] at h
      split at h
      · cases h
      · rename_i hc
        obtain ⟨l,hl,h⟩ := Option.bind_eq_some_iff.1 h
        obtain ⟨l',hl',rfl⟩ := Option.map_eq_some_iff.1 h
        obtain ⟨hid,rfl⟩ := zapa ht
        refine ⟨rfl,?_⟩
        by_cases hn : n = 0
        · subst hn; exact .slE _ _
        have hsz : 0 < sz := Nat.pos_of_ne_zero fun h => hc (.inl h)
        have hpos : 0 < n * sz := Nat.mul_pos (Nat.pos_of_ne_zero hn) hsz
        obtain ⟨b,hb,hb2⟩ := Option.bind_eq_some_iff.1 hl
        split at hb2
        · rename_i hle
          injection hb2 with hb2
          obtain ⟨b',hb',ho⟩ := hs.ob id (by rw [← hs.n]; exact hid)
          rw [hb] at hb'; injection hb' with hb'; subst hb'
          obtain ⟨hw,cs,h1,h2,h3⟩ := ho.live (fun h0 => by rw [h0] at hle; simp at hle; omega)
          obtain ⟨g1,g2⟩ := zaut hl'
          have ll : l.length = n * sz := by rw [← hb2]; simp; omega
          have key : ∀ j,j < n * sz → (l'.getD j .undef).pureS = true ∧ PR σv (l'.getD j .undef) (cs.getD (off + j) undef) := fun j hj => by
            refine ih _ _ _ (g2 j (by omega)) ?_
            rw [← hb2,nk TV.rd _ _ .undef _ (by simp; omega),db _ _ _ _ _ hj]
            exact cr_rd (h3 (off + j) (by omega)).1
          have hat := hv.ro id b.t cs (Nat.le_of_not_lt fun h => hc (.inr h)) hw h1
          have cl : ∀ i,i < n → ((yv sz n l').getD i .undef).cells = (l'.drop (i * sz)).take sz := fun i hi => by
            have hle2 : (i + 1) * sz ≤ n * sz := Nat.mul_le_mul_right _ hi
            rw [Nat.add_mul,Nat.one_mul] at hle2
            rw [zara sz n l' i hi]
            refine zatv (fun v hv => ?_) (fun h0 => ?_)
            · obtain ⟨j,hj,rfl⟩ := List.mem_iff_getElem.1 hv
              have hj' : j < sz := by simp at hj; omega
              have := (key (i * sz + j) (by omega)).1
              rw [← db l' (i * sz) sz j .undef hj',jo (List.getElem?_eq_getElem hj)] at this
              exact this
            · have := congrArg List.length h0
              simp at this
              omega
          have := PR.sl (σ := σv) (yv sz n l') (e.b id) off sz b.t cs .ro (by intro h0; have := congrArg List.length h0; rw [nm] at this; exact hn this) (by omega) hat (by simp) (by rw [nm]; omega)
            (fun i hi => by
              rw [nm] at hi
              have hle2 : (i + 1) * sz ≤ n * sz := Nat.mul_le_mul_right _ hi
              rw [Nat.add_mul,Nat.one_mul] at hle2
              rw [cl i hi]; simp; omega)
            (fun i hi j hj => by
              rw [nm] at hi
              have hle2 : (i + 1) * sz ≤ n * sz := Nat.mul_le_mul_right _ hi
              rw [Nat.add_mul,Nat.one_mul] at hle2
              rw [cl i hi,db _ _ _ _ _ hj]
              have := (key (i * sz + j) (by omega)).2
              rwa [← Nat.add_assoc] at this)
          rwa [nm] at this
        · cases hb2
    | _ => exact plain _ u w (by simpa [zan6] using h) ht
theorem tfz_ok (hs : St B e fr tk τ fr' σ) {n0 : Nat} {σv : ak} (hv : View σ e n0 σv) {v u : TV} {w : Value} (h : tfz τ n0 v = some u) (ht : TR σ e tk v w) (e2 : Env) (tk2 : TK) : TR σv e2 tk2 u w := by
  unfold tfz at h
  split at h
  · rename_i cs
    obtain ⟨l,hl,rfl⟩ := Option.map_eq_some_iff.1 h
    obtain ⟨c,rfl,h1,h2⟩ := zamd ht
    obtain ⟨g1,g2⟩ := zaut hl
    exact .agg _ _ (by rw [g1]; exact h1) fun i hi => .pr (tfzS_ok hs hv 2 _ _ _ (g2 i (by omega)) (h2 i (by omega))).2
  · exact .pr (tfzS_ok hs hv 2 _ _ _ h ht).2
theorem flat_tr {v : TV} {w : Value} (h : TR σ e tk v w) (hf : v.flat = true) : flatV w = true ∧ ∀ (σ2 : ak) (e2 : Env) (tk2 : TK),TR σ2 e2 tk2 v w := by
  cases v with
  | bool b => rw [va h]; exact ⟨rfl,fun _ _ _ => .pr (.bool _)⟩
  | int k n => rw [mc h]; exact ⟨rfl,fun _ _ _ => .pr (.int _ _)⟩
  | str s => rw [zab7 h]; exact ⟨rfl,fun _ _ _ => .pr (.str _)⟩
  | _ => cases hf
theorem tBor_ok {cf : CF} (hcf : CFOK P cf) {f : FuncId} {args : List TV} {ws : List Value} {r : TV} (h : tBor cf f args tk τ = some (r,tk',τ')) (hs : St B e fr tk τ fr' σ) (hl : args.length = ws.length)
    (ha : ∀ i,i < args.length → TR σ e tk (args.getD i .undef) (ws.getD i undef)) : tk' = tk ∧ τ' = τ ∧ io P f ws σ fun w σ' => σ' = σ ∧ TR σ e tk r w := by
  unfold tBor at h
  obtain ⟨as,has,h⟩ := Option.bind_eq_some_iff.1 h
  obtain ⟨⟨r2,τ2⟩,hc,h⟩ := Option.bind_eq_some_iff.1 h
  split at h
  · rename_i hf
    simp only [Option.some.injEq,Prod.mk.injEq] at h
    obtain ⟨rfl,rfl,rfl⟩ := h
    refine ⟨rfl,rfl,io.borrow ?_⟩
    obtain ⟨g1,g2⟩ := zaut has
    have := hcf _ _ _ _ _ hc σ.ro ⟨fun _ => 0,0,fun _ => .none⟩ ws ⟨rfl,fun g hg => absurd rfl hg,fun g id hg => (by rcases hg with hg | ⟨_,hg⟩ <;> cases hg),fun id hid => absurd hid (Nat.not_lt_zero _)⟩ (fun g i hg => by cases hg) (by omega)
      (fun i hi => tfz_ok hs (View.ofRo σ e) (g2 i (by omega)) (ha i (by omega)) _ _)
    refine this.mono fun w σ2 ⟨e2,_,ht⟩ => ?_
    obtain ⟨q1,q2⟩ := flat_tr ht hf
    exact ⟨q1,q2 _ _ _⟩
  · cases h
end
end Go.Proofs.Ytdcfoaafkppojaa.Sh
