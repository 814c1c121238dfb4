/- Functions of numbers and lists, printed by a program of ours out of the code for the tree level, with their proofs. -/
import Derived.Test.YtdcfoaafkppojaaDt
set_option linter.unusedVariables false
set_option linter.unusedSimpArgs false
set_option linter.unusedSectionVars false
namespace Go.Proofs.Ytdcfoaafkppojaa
open Go Go.RowKit Sh Ic
noncomputable def handsellaw00_Place_f (p1 : Int) (p2 : Int) : Option Int :=
  if ¬ p2 = 0 then
    if (Int.tmod p1 p2) < (0 : Int) then
      some (IntKind.i64.wrap ((Int.tmod p1 p2) + p2))
    else
    some (Int.tmod p1 p2)
  else
    none
theorem handsellaw00_Place_f_s (p1 : Int) (p2 : Int) (r : Int) (h : handsellaw00_Place_f p1 p2 = some r) (τ : TH) (hl : τ.lock ≤ τ.next) : Ru G F_handsellaw00_Place [.int .i64 p1,.int .i64 p2] τ (.int .i64 r) τ := by
  refine Ru_of fun K hK => ?_
  rw [tC_code g_handsellaw00_Place (Nat.le_of_ble_eq_true rfl)]
  unfold handsellaw00_Place_f at h
  obtain ⟨c1,h⟩ := ifS h
  by_cases c2 : (Int.tmod p1 p2) < (0 : Int)
  · rw [if_pos c2] at h
    injection h with h; subst h
    simp -implicitDefEqProofs only [U_handsellaw00_Place,TT,Ic.t,Ic.ci,Nat.reduceEqDiff,reduceIte,Nat.reduceAdd,Nat.reduceMul,Nat.reduceLT,Nat.reduceLeDiff,Nat.reduceSub,reduceCtorEq,Int.reduceEq,Int.reduceNe,Int.reduceToNat,Int.reduceLT,Int.reduceLE,Int.reduceNeg,hl,c1,c2,CL,LTN]
    exact hK
  rw [if_neg c2] at h
  injection h with h; subst h
  simp -implicitDefEqProofs only [U_handsellaw00_Place,TT,Ic.t,Ic.ci,Nat.reduceEqDiff,reduceIte,Nat.reduceAdd,Nat.reduceMul,Nat.reduceLT,Nat.reduceLeDiff,Nat.reduceSub,reduceCtorEq,Int.reduceEq,Int.reduceNe,Int.reduceToNat,Int.reduceLT,Int.reduceLE,Int.reduceNeg,hl,c1,c2,CL,LTN]
  exact hK
theorem handsellaw00_Place_f_k (p1 : Int) (p2 : Int) (r : Int) (h : handsellaw00_Place_f p1 p2 = some r) (lk : Bool) (d : Option Nat) (K : TCont) (fr : TF) (tk : TK) (τ : TH) (hl : τ.lock ≤ τ.next) : callK G lk F_handsellaw00_Place [.int .i64 p1,.int .i64 p2] d K fr tk τ = K (tput fr d (.int .i64 r)) tk τ :=
  callK_rdo (handsellaw00_Place_f_s p1 p2 r h τ  hl) (handsellaw00_Place_f_s p1 p2 r h (τ.locked τ.next)  (Nat.le_refl _) ) (by simp -implicitDefEqProofs only [TT,Ic.t,Ic.ci,Nat.reduceEqDiff,reduceIte,Nat.reduceAdd,Nat.reduceMul,Nat.reduceLT,Nat.reduceLeDiff,Nat.reduceSub,reduceCtorEq,Int.reduceEq,Int.reduceNe,Int.reduceToNat,Int.reduceLT,Int.reduceLE,Int.reduceNeg,hl,CL,LTN])
end Go.Proofs.Ytdcfoaafkppojaa
