/- The document's Check: the same. -/
import Derived.Test.YtdcfoaafkppojaaPSpec2
set_option linter.unusedSimpArgs false
set_option linter.unusedVariables false
namespace Go.Proofs.Ytdcfoaafkppojaa
open Go Go.RowKit Sh Ic
theorem zaps (s : ByteArray) : qv s = some (rp s) := by
  unfold qv rp
  by_cases h : 1 ≤ s.size
  · rw [if_pos (by omega),decide_eq_true h,Bool.true_and]
    congr 1
    exact decide_eq_decide.2 ⟨fun _ => by omega,fun _ => by omega⟩
  · rw [if_neg (by omega),decide_eq_false h,Bool.false_and]
section
variable (s : aa)
theorem rl2 (np : Int) (i : Nat) (x : Int) (hx : s.Leaders[i]? = some x) (hl : s.Leaders.length < 1000000) :
    (dq s np (i : Int) 0 = some (.ex ()) ∧ ∀ j,j < i → ∀ y,s.Leaders[j]? = some y → y ≠ x) ∨ (dq s np (i : Int) 0 = some (.rt false) ∧ ∃ j,j < i ∧ ¬ ∀ y,s.Leaders[j]? = some y → y ≠ x) := by
  obtain ⟨hi,hxi⟩ := wq hx
  refine zax8 (f := fun k => dq s np (i : Int) (k : Int)) ?_ ?_ ?_
  · show dq s np (i : Int) (i : Int) = _
    rw [qf,ce,if_neg (by omega),obz,LS.go]
  · intro k hk p
    show dq s np (i : Int) (k : Int) = dq s np (i : Int) ((k + 1 : Nat) : Int)
    obtain ⟨y,hy⟩ := zaec (show k < s.Leaders.length by omega)
    rw [qf,ce,if_pos (by omega),(wq hy).2,obz,hxi,obz,if_neg (p y hy),obz,LS.go,tn k (by omega)]
  · intro k hk p
    show dq s np (i : Int) (k : Int) = _
    obtain ⟨y,hy⟩ := zaec (show k < s.Leaders.length by omega)
    have e : y = x := Classical.byContradiction fun e => p fun z hz => by rw [hy] at hz; injection hz with hz; subst hz; exact e
    rw [qf,ce,if_pos (by omega),(wq hy).2,obz,hxi,obz,if_pos e,obz,LS.go]
def goodL (i : Nat) : Prop := ∀ x,s.Leaders[i]? = some x → (0 ≤ x ∧ x < s.Parties.length) ∧ (∀ y,s.Locks[i]? = some y → y.size = 32) ∧ ∀ j,j < i → ∀ y,s.Leaders[j]? = some y → y ≠ x
theorem rl1 (hl : s.Leaders.length < 1000000) (hlo : s.Locks.length = s.Leaders.length) :
    (dt s (s.Leaders.length : Nat) 0 = some (.ex ()) ∧ ∀ j,j < s.Leaders.length → goodL s j) ∨ (dt s (s.Leaders.length : Nat) 0 = some (.rt false) ∧ ∃ j,j < s.Leaders.length ∧ ¬ goodL s j) := by
  refine zax8 (f := fun k => dt s (s.Leaders.length : Nat) (k : Int)) ?_ ?_ ?_
  · show dt s _ ((s.Leaders.length : Nat) : Int) = _
    rw [qg,cg,if_neg (by omega),obz,LS.go]
  · intro k hk p
    show dt s _ (k : Int) = dt s _ ((k + 1 : Nat) : Int)
    obtain ⟨x,hx⟩ := zaec hk
    obtain ⟨y,hy⟩ := zaec (show k < s.Locks.length by omega)
    obtain ⟨g1,g2,g3⟩ := p x hx
    rw [qg,cg,if_pos (by omega),(wq hx).2,obz,if_neg (by omega),if_neg (by omega),(wq hy).2,obz,if_pos (by have := g2 y hy; omega)]
    rcases rl2 s (s.Leaders.length : Nat) k x hx hl with ⟨e,_⟩ | ⟨_,j,hj,e⟩
    · rw [e,obz]
      show (some (LS.nx (IntKind.i64.wrap ((k : Int) + 1))) : Option (LS Int (LX Unit Bool))) >>= _ = _
      rw [obz,LS.go,tn k (by omega)]
    · exact absurd (g3 j hj) e
  · intro k hk p
    show dt s _ (k : Int) = _
    obtain ⟨x,hx⟩ := zaec hk
    obtain ⟨y,hy⟩ := zaec (show k < s.Locks.length by omega)
    rw [qg,cg,if_pos (by omega),(wq hx).2,obz]
    by_cases c1 : x < 0
    · rw [if_pos c1,obz,LS.go]
    rw [if_neg c1]
    by_cases c2 : (s.Parties.length : Int) ≤ x
    · rw [if_pos c2,obz,LS.go]
    rw [if_neg c2,(wq hy).2,obz]
    by_cases c3 : (y.size : Int) = 32
    · rw [if_pos c3]
      rcases rl2 s (s.Leaders.length : Nat) k x hx hl with ⟨e,g⟩ | ⟨e,_⟩
      · refine (p fun x' hx' => ?_).elim
        rw [hx] at hx'
        injection hx' with hx'
        subst hx'
        exact ⟨⟨by omega,by omega⟩,fun y' hy' => by rw [hy] at hy'; injection hy' with hy'; subst hy'; omega,g⟩
      · rw [e,obz]
        show (some (LS.dn (LX.rt false)) : Option (LS Int (LX Unit Bool))) >>= _ = _
        rw [obz,LS.go]
    · rw [if_neg c3,obz,LS.go]
def okL : Prop := (1 ≤ s.Leaders.length ∧ s.Leaders.length ≤ 3) ∧ s.Locks.length = s.Leaders.length ∧ ∀ j,j < s.Leaders.length → goodL s j
theorem leaders_f : (kc s = some true ∧ okL s) ∨ (kc s = some false ∧ ¬ okL s) := by
  unfold kc
  by_cases c1 : (s.Leaders.length : Int) < 1
  · exact .inr ⟨if_pos c1,fun h => by have := h.1; omega⟩
  rw [if_neg c1]
  by_cases c2 : (3 : Int) < s.Leaders.length
  · exact .inr ⟨if_pos c2,fun h => by have := h.1; omega⟩
  rw [if_neg c2]
  by_cases c3 : (s.Locks.length : Int) = s.Leaders.length
  · rw [if_pos c3]
    rcases rl1 s (by omega) (by omega) with ⟨e,g⟩ | ⟨e,j,hj,g⟩
    · rw [e,obz]
      exact .inl ⟨rfl,⟨by omega,by omega⟩,by omega,g⟩
    · rw [e,obz]
      exact .inr ⟨rfl,fun h => g (h.2.2 j hj)⟩
  · exact .inr ⟨if_neg c3,fun h => by have := h.2.1; omega⟩
end
end Go.Proofs.Ytdcfoaafkppojaa
