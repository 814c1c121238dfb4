/- spec.once by its contracts, as functions of lists. -/
import Derived.Test.YtdcfoaafkppojaaD0
set_option linter.unusedVariables false
set_option linter.unusedSimpArgs false
namespace Go.Proofs.Ytdcfoaafkppojaa
open Go Go.RowKit Sh Ic
def jg (l : List ByteArray) : Option Bool := if l.length ≤ 140737488355328 ∧ ∀ x ∈ l,x.size ≤ 140737488355328 then some (decide l.Nodup) else none
theorem zaex (p1 : List ByteArray) (r : Bool) (h : jg p1 = some r) (lk : Bool) (d : Option Nat) (K : au) (fr : TF) (tk : TK) (τ : TH) (hl : τ.lock ≤ τ.next) : fv G lk er [.sl (List.map TV.str p1)] d K fr tk τ = K (fu fr d (.bool r)) tk τ := by
  unfold jg at h
  split at h
  · rename_i hc
    injection h with h
    subst h
    have hr : ∀ τ,Ru G er [.sl (p1.map TV.str)] τ (.bool (decide p1.Nodup)) τ := fun τ => za2x zakj (by
      have := zaot (key := keyS) (f := TV.str) (g := id) p1 (fun b hb => by show (if b.size ≤ 140737488355328 then some b else none) = some b; rw [if_pos (hc.2 b hb)])
      have hl : (p1.map TV.str).length ≤ 140737488355328 := by rw [List.length_map]; exact hc.1
      simp only [onceS,zauz,TV.list,if_pos hl,this,Option.map_some,List.map_id])
    exact aw (hr _) (hr _) (by simp -implicitDefEqProofs only [TT,Ic.t,Ic.ci,Nat.reduceEqDiff,reduceIte,Nat.reduceAdd,Nat.reduceLT,reduceCtorEq,Int.reduceToNat])
  · cases h
def ri (l : List Int) : Option Bool := if l.length ≤ 140737488355328 ∧ ∀ x ∈ l,zaos x = true then some (decide l.Nodup) else none
theorem zalo (p1 : List Int) (r : Bool) (h : ri p1 = some r) (lk : Bool) (d : Option Nat) (K : au) (fr : TF) (tk : TK) (τ : TH) (hl : τ.lock ≤ τ.next) : fv G lk gx [.sl (List.map (TV.int .i64) p1)] d K fr tk τ = K (fu fr d (.bool r)) tk τ := by
  unfold ri at h
  split at h
  · rename_i hc
    injection h with h
    subst h
    have hr : ∀ τ,Ru G gx [.sl (p1.map (TV.int .i64))] τ (.bool (decide p1.Nodup)) τ := fun τ => za2x zaq1 (by
      have := zaot (key := keyI) (f := TV.int .i64) (g := id) p1 (fun b hb => by show (if zaos b then some b else none) = some b; rw [if_pos (hc.2 b hb)])
      have hl : (p1.map (TV.int .i64)).length ≤ 140737488355328 := by rw [List.length_map]; exact hc.1
      simp only [onceI,zauz,TV.list,if_pos hl,this,Option.map_some,List.map_id])
    exact aw (hr _) (hr _) (by simp -implicitDefEqProofs only [TT,Ic.t,Ic.ci,Nat.reduceEqDiff,reduceIte,Nat.reduceAdd,Nat.reduceLT,reduceCtorEq,Int.reduceToNat])
  · cases h
def two (x : da) : Int × Int := (x.e0,x.e1)
def nh (l : List da) : Option Bool := if l.length ≤ 140737488355328 ∧ ∀ x ∈ l,(zaos x.e0 && zaos x.e1) = true then some (decide (l.map two).Nodup) else none
theorem zahn (p1 : List da) (r : Bool) (h : nh p1 = some r) (lk : Bool) (d : Option Nat) (K : au) (fr : TF) (tk : TK) (τ : TH) (hl : τ.lock ≤ τ.next) : fv G lk ft [.sl (List.map da.tv p1)] d K fr tk τ = K (fu fr d (.bool r)) tk τ := by
  unfold nh at h
  split at h
  · rename_i hc
    injection h with h
    subst h
    have hr : ∀ τ,Ru G ft [.sl (p1.map da.tv)] τ (.bool (decide (p1.map two).Nodup)) τ := fun τ => za2x zal1 (by
      have := zaot (key := keyA) (f := da.tv) (g := two) p1 (fun b hb => by
        show (if (zaos b.e0 && zaos b.e1) = true then some (b.e0,b.e1) else none) = some (b.e0,b.e1)
        rw [if_pos (hc.2 b hb)])
      have hl : (p1.map da.tv).length ≤ 140737488355328 := by rw [List.length_map]; exact hc.1
      simp only [onceA,zauz,TV.list,if_pos hl,this,Option.map_some])
    exact aw (hr _) (hr _) (by simp -implicitDefEqProofs only [TT,Ic.t,Ic.ci,Nat.reduceEqDiff,reduceIte,Nat.reduceAdd,Nat.reduceLT,reduceCtorEq,Int.reduceToNat])
  · cases h
end Go.Proofs.Ytdcfoaafkppojaa
