/- spec.once by its contracts, as functions of lists. -/
import Derived.Test.YtdcfoaafkppojaaD3
set_option linter.unusedVariables false
set_option linter.unusedSimpArgs false
namespace Go.Proofs.Ytdcfoaafkppojaa
open Go Go.RowKit Sh Ic
def spec_once_string_f (l : List ByteArray) : Option Bool := if l.length ≤ 140737488355328 ∧ ∀ x ∈ l,x.size ≤ 140737488355328 then some (decide l.Nodup) else none
theorem spec_once_string_f_k (p1 : List ByteArray) (r : Bool) (h : spec_once_string_f p1 = some r) (lk : Bool) (d : Option Nat) (K : TCont) (fr : TF) (tk : TK) (τ : TH) (hl : τ.lock ≤ τ.next) : callK G lk F_spec_once_string [.sl (List.map TV.str p1)] d K fr tk τ = K (tput fr d (.bool r)) tk τ := by
  unfold spec_once_string_f at h
  split at h
  · rename_i hc
    injection h with h
    subst h
    have hr : ∀ τ,Ru G F_spec_once_string [.sl (p1.map TV.str)] τ (.bool (decide p1.Nodup)) τ := fun τ => Ru_prim g_spec_once_string (by
      have := mapK_map (key := keyS) (f := TV.str) (g := id) p1 (fun b hb => by show (if b.size ≤ 140737488355328 then some b else none) = some b; rw [if_pos (hc.2 b hb)])
      have hl : (p1.map TV.str).length ≤ 140737488355328 := by rw [List.length_map]; exact hc.1
      simp only [onceS,onceP,TV.list,if_pos hl,this,Option.map_some,List.map_id])
    exact callK_rdo (hr _) (hr _) (by simp -implicitDefEqProofs only [TT,Ic.t,Ic.ci,Nat.reduceEqDiff,reduceIte,Nat.reduceAdd,Nat.reduceMul,Nat.reduceLT,Nat.reduceLeDiff,Nat.reduceSub,reduceCtorEq,Int.reduceEq,Int.reduceNe,Int.reduceToNat,Int.reduceLT,Int.reduceLE,Int.reduceNeg])
  · cases h
def spec_once_int_f (l : List Int) : Option Bool := if l.length ≤ 140737488355328 ∧ ∀ x ∈ l,ok64 x = true then some (decide l.Nodup) else none
theorem spec_once_int_f_k (p1 : List Int) (r : Bool) (h : spec_once_int_f p1 = some r) (lk : Bool) (d : Option Nat) (K : TCont) (fr : TF) (tk : TK) (τ : TH) (hl : τ.lock ≤ τ.next) : callK G lk F_spec_once_int [.sl (List.map (TV.int .i64) p1)] d K fr tk τ = K (tput fr d (.bool r)) tk τ := by
  unfold spec_once_int_f at h
  split at h
  · rename_i hc
    injection h with h
    subst h
    have hr : ∀ τ,Ru G F_spec_once_int [.sl (p1.map (TV.int .i64))] τ (.bool (decide p1.Nodup)) τ := fun τ => Ru_prim g_spec_once_int (by
      have := mapK_map (key := keyI) (f := TV.int .i64) (g := id) p1 (fun b hb => by show (if ok64 b then some b else none) = some b; rw [if_pos (hc.2 b hb)])
      have hl : (p1.map (TV.int .i64)).length ≤ 140737488355328 := by rw [List.length_map]; exact hc.1
      simp only [onceI,onceP,TV.list,if_pos hl,this,Option.map_some,List.map_id])
    exact callK_rdo (hr _) (hr _) (by simp -implicitDefEqProofs only [TT,Ic.t,Ic.ci,Nat.reduceEqDiff,reduceIte,Nat.reduceAdd,Nat.reduceMul,Nat.reduceLT,Nat.reduceLeDiff,Nat.reduceSub,reduceCtorEq,Int.reduceEq,Int.reduceNe,Int.reduceToNat,Int.reduceLT,Int.reduceLE,Int.reduceNeg])
  · cases h
def two (x : A_2_Int) : Int × Int := (x.e0,x.e1)
def spec_once_2_int_f (l : List A_2_Int) : Option Bool := if l.length ≤ 140737488355328 ∧ ∀ x ∈ l,(ok64 x.e0 && ok64 x.e1) = true then some (decide (l.map two).Nodup) else none
theorem spec_once_2_int_f_k (p1 : List A_2_Int) (r : Bool) (h : spec_once_2_int_f p1 = some r) (lk : Bool) (d : Option Nat) (K : TCont) (fr : TF) (tk : TK) (τ : TH) (hl : τ.lock ≤ τ.next) : callK G lk F_spec_once_2_int [.sl (List.map A_2_Int.tv p1)] d K fr tk τ = K (tput fr d (.bool r)) tk τ := by
  unfold spec_once_2_int_f at h
  split at h
  · rename_i hc
    injection h with h
    subst h
    have hr : ∀ τ,Ru G F_spec_once_2_int [.sl (p1.map A_2_Int.tv)] τ (.bool (decide (p1.map two).Nodup)) τ := fun τ => Ru_prim g_spec_once_2_int (by
      have := mapK_map (key := keyA) (f := A_2_Int.tv) (g := two) p1 (fun b hb => by
        show (if (ok64 b.e0 && ok64 b.e1) = true then some (b.e0,b.e1) else none) = some (b.e0,b.e1)
        rw [if_pos (hc.2 b hb)])
      have hl : (p1.map A_2_Int.tv).length ≤ 140737488355328 := by rw [List.length_map]; exact hc.1
      simp only [onceA,onceP,TV.list,if_pos hl,this,Option.map_some])
    exact callK_rdo (hr _) (hr _) (by simp -implicitDefEqProofs only [TT,Ic.t,Ic.ci,Nat.reduceEqDiff,reduceIte,Nat.reduceAdd,Nat.reduceMul,Nat.reduceLT,Nat.reduceLeDiff,Nat.reduceSub,reduceCtorEq,Int.reduceEq,Int.reduceNe,Int.reduceToNat,Int.reduceLT,Int.reduceLE,Int.reduceNeg])
  · cases h
end Go.Proofs.Ytdcfoaafkppojaa
