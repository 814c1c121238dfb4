/- What a law is handed, at the tree level; a law's call. -/
import Derived.Test.YtnimkejbeogciaaTv9
import Derived.Test.YtnimkejbeogciaaShI
set_option linter.unusedVariables false
set_option linter.unusedSimpArgs false
namespace Go.Proofs.Ytnimkejbeogciaa.Sh
open Go Go.RowKit
class ArgT (α : Type) [Arg α] where
  enc : α → TV
  pos : 0 < Arg.sz α
  form : Arg.agg α = false → ∀ a,(enc a).cells = [enc a]
  agg : Arg.agg α = true → ∀ a,enc a = .agg (enc a).cells
  rel : ∀ {σ : Heap} {vs : List Value} {a : α},Arg.rel σ vs a → vs.length = Arg.sz α → (enc a).cells.length = Arg.sz α ∧ ∀ j,j < Arg.sz α → PR σ ((enc a).cells.getD j .undef) (vs.getD j undef)
open ArgT (enc)
theorem one_rel {σ : Heap} {v : TV} {w : Value} (hc : v.cells = [v]) (h : PR σ v w) : v.cells.length = 1 ∧ ∀ j,j < 1 → PR σ (v.cells.getD j .undef) ([w].getD j undef) := by
  rw [hc]
  refine ⟨rfl,fun j hj => ?_⟩
  obtain rfl : j = 0 := by omega
  exact h
instance : ArgT Int where
  enc n := .int .i64 n
  pos := Nat.one_pos
  form _ _ := rfl
  agg h := by cases h
  rel h _ := by
    have h : _ = [Value.int .i64 _] := h
    rw [h]; exact one_rel rfl (.int _ _)
instance : ArgT UInt8 where
  enc n := .int .u8 n.toNat
  pos := Nat.one_pos
  form _ _ := rfl
  agg h := by cases h
  rel h _ := by
    have h : _ = [Value.int .u8 _] := h
    rw [h]; exact one_rel rfl (.int _ _)
instance : ArgT ByteArray where
  enc s := .str s
  pos := Nat.one_pos
  form _ _ := rfl
  agg h := by cases h
  rel h _ := by
    have h : _ = [Value.string _] := h
    rw [h]; exact one_rel rfl (.str _)
instance : ArgT Bool where
  enc b := .bool b
  pos := Nat.one_pos
  form _ _ := rfl
  agg h := by cases h
  rel h _ := by
    have h : _ = [Value.bool _] := h
    rw [h]; exact one_rel rfl (.bool _)
theorem encL_get {α : Type} [Arg α] [ArgT α] (l : List α) (i : Nat) (h : i < l.length) : (l.map enc).getD i .undef = enc l[i] := by
  simp only [List.getD_eq_getElem?_getD,List.getElem?_map,List.getElem?_eq_getElem h,Option.map_some,Option.getD_some]
theorem relSl_pr {α : Type} [Arg α] [ArgT α] {σ : Heap} {v : Value} {l : List α} (h : relSl σ [v] l) : PR σ (.sl (l.map enc)) v := by
  rcases h with ⟨h,rfl⟩ | ⟨g,off,h,h2⟩
  · injection h with h; subst h; exact .slN
  · injection h with h
    subst h
    by_cases hne : l = []
    · subst hne; exact .slE _ _
    · obtain ⟨t,cs,b1,b2,b3⟩ := h2 hne
      have hp := ArgT.pos (α := α)
      have e : ∀ i (hi : i < l.length),(enc l[i]).cells.length = Arg.sz α ∧ ∀ j,j < Arg.sz α → PR σ ((enc l[i]).cells.getD j .undef) (((cs.drop (off + i * Arg.sz α)).take (Arg.sz α)).getD j undef) := fun i hi => by
        refine ArgT.rel (b3 i hi) ?_
        have : i * Arg.sz α + Arg.sz α ≤ l.length * Arg.sz α := by rw [← Nat.succ_mul]; exact Nat.mul_le_mul_right _ hi
        simp; omega
      have := PR.sl (σ := σ) (l.map enc) g off (Arg.sz α) t cs .ro (by simpa using hne) (by omega) b1 (by simp) (by simpa using b2) (fun i hi => by
        have hi' : i < l.length := by simpa using hi
        rw [encL_get l i hi']; exact (e i hi').1) (fun i hi j hj => by
        have hi' : i < l.length := by simpa using hi
        rw [encL_get l i hi']
        have := (e i hi').2 j hj
        rwa [drop_take_getD _ _ _ _ _ hj] at this)
      simpa using this
instance {α : Type} [Arg α] [ArgT α] : ArgT (List α) where
  enc l := .sl (l.map enc)
  pos := Nat.one_pos
  form _ _ := rfl
  agg h := by cases h
  rel {σ vs a} h hl := by
    have hl : vs.length = 1 := hl
    obtain ⟨v,rfl⟩ := List.length_eq_one_iff.1 hl
    exact one_rel rfl (relSl_pr h)
class FldsT (β : Type) [Flds β] where
  encF : β → List TV
  rel : ∀ {σ : Heap} {vs : List Value} {a : β},Flds.rel σ vs a → vs.length = Flds.sz β → (encF a).length = Flds.sz β ∧ ∀ j,j < Flds.sz β → PR σ ((encF a).getD j .undef) (vs.getD j undef)
instance : FldsT Unit where
  encF _ := []
  rel _ _ := ⟨rfl,fun j hj => absurd hj (Nat.not_lt_zero _)⟩
instance {α β : Type} [Arg α] [ArgT α] [Flds β] [FldsT β] : FldsT (α × β) where
  encF x := (enc x.1).cells ++ FldsT.encF x.2
  rel {σ vs a} h hl := by
    obtain ⟨v1,v2,rfl,h2,h3,h4⟩ := h
    have hl : (v1 ++ v2).length = Arg.sz α + Flds.sz β := hl
    obtain ⟨a1,a2⟩ := ArgT.rel h3 h2
    obtain ⟨b1,b2⟩ := FldsT.rel h4 (by rw [List.length_append] at hl; omega)
    refine ⟨by rw [List.length_append,a1,b1]; rfl,fun j hj => ?_⟩
    have hj : j < Arg.sz α + Flds.sz β := hj
    by_cases hlt : j < Arg.sz α
    · have e1 : ((enc a.1).cells ++ FldsT.encF a.2).getD j .undef = (enc a.1).cells.getD j .undef := by simp [List.getD_eq_getElem?_getD,List.getElem?_append_left (show j < (enc a.1).cells.length by omega)]
      have e2 : (v1 ++ v2).getD j undef = v1.getD j undef := by simp [List.getD_eq_getElem?_getD,List.getElem?_append_left (show j < v1.length by omega)]
      rw [e1,e2]; exact a2 j hlt
    · have e1 : ((enc a.1).cells ++ FldsT.encF a.2).getD j .undef = (FldsT.encF a.2).getD (j - Arg.sz α) .undef := by simp [List.getD_eq_getElem?_getD,List.getElem?_append_right (show (enc a.1).cells.length ≤ j by omega),a1]
      have e2 : (v1 ++ v2).getD j undef = v2.getD (j - Arg.sz α) undef := by simp [List.getD_eq_getElem?_getD,List.getElem?_append_right (show v1.length ≤ j by omega),h2]
      rw [e1,e2]; exact b2 _ (by omega)
instance {α β : Type} [Arg α] [ArgT α] [Flds β] [FldsT β] : ArgT (Rec (α × β)) where
  enc x := .agg (FldsT.encF x.val)
  pos := by
    have := ArgT.pos (α := α)
    show 0 < Arg.sz α + Flds.sz β
    omega
  form h := by cases h
  agg _ _ := rfl
  rel {σ vs a} h hl := FldsT.rel (β := α × β) h hl
theorem argV_tr {α : Type} [Arg α] [ArgT α] {σ : Heap} {e : Env} {tk : TK} {v : Value} {a : α} (h : ArgV σ v a) : TR σ e tk (enc a) v := by
  obtain ⟨vs,rfl,h1,h2⟩ := h
  obtain ⟨r1,r2⟩ := ArgT.rel h2 h1
  unfold toV
  cases hag : Arg.agg α
  · have hf := ArgT.form hag a
    rw [hf] at r1 r2
    have := r2 0 (by simp at r1; omega)
    exact .pr this
  · rw [ArgT.agg hag a]
    refine .agg _ _ (by simp [r1,h1]) fun j hj => ?_
    have := r2 j (by rw [← r1]; exact hj)
    rw [toArray_getD]
    exact .pr this
theorem Ru_prim {Γ : FuncId → Option TG} {f : FuncId} {g : List TV → TH → Option (TV × TH)} (hf : Γ f = some (.prim g)) {args : List TV} {τ : TH} {r : TV} {τ' : TH} (h : g args τ = some (r,τ')) : Ru Γ f args τ r τ' := by
  refine ⟨1,?_⟩
  show callStep Γ (both Γ 0) f args τ = some (r,τ')
  simp only [callStep,hf]
  exact h
def Lw (Γ : FuncId → Option TG) (f : FuncId) (args : List TV) : Prop := ∃ τ',Ru Γ f args ⟨[],0⟩ (.bool true) τ'
theorem Lw_of {Γ : FuncId → Option TG} {f : FuncId} {args : List TV} (h : ∀ K : TV → TH → Prop,(∀ τ',K (.bool true) τ') → tC Γ f args ⟨[],0⟩ K) : Lw Γ f args := by
  obtain ⟨r,τ',h1,rfl⟩ := h (fun r _ => r = .bool true) fun _ => rfl
  exact ⟨τ',h1⟩
theorem law_ok {P : Program} {Γ : FuncId → Option TG} (hG : GOK P Γ) {f : FuncId} {args : List TV} (h : Lw Γ f args) {σ : Heap} {ws : List Value} (hl : args.length = ws.length)
    (ha : ∀ i,i < args.length → TR σ ⟨fun _ => 0,0,fun _ => .none⟩ [] (args.getD i .undef) (ws.getD i undef)) : CallOK P f ws σ fun v _ => v = .bool true := by
  obtain ⟨τ',k,hk⟩ := h
  have := (both_ok hG k).1 _ _ _ _ _ hk σ ⟨fun _ => 0,0,fun _ => .none⟩ ws ⟨rfl,fun g hg => absurd rfl hg,fun g id hg => (by rcases hg with hg | ⟨_,hg⟩ <;> cases hg),fun id hid => absurd hid (Nat.not_lt_zero _)⟩ (fun g i h => by cases h) hl ha
  exact this.mono fun v σ' ⟨e',_,h⟩ => tr_bool h
end Go.Proofs.Ytnimkejbeogciaa.Sh
