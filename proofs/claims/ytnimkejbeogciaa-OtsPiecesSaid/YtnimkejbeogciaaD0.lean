/- Functions of numbers and lists, printed by a program of ours out of the code for the tree level, with their proofs. -/
import Derived.Test.YtnimkejbeogciaaDt
set_option linter.unusedVariables false
set_option linter.unusedSimpArgs false
set_option linter.unusedSectionVars false
namespace Go.Proofs.Ytnimkejbeogciaa
open Go Go.RowKit Sh Ic
noncomputable def ots_isKey_f (p1 : Int) : Option Bool :=
  if (0 : Int) ≤ p1 then
    some (decide (p1 ≤ (255 : Int)))
  else
  some false
theorem ots_isKey_f_s (p1 : Int) (r : Bool) (h : ots_isKey_f p1 = some r) (τ : TH) (hl : τ.lock ≤ τ.next) : Ru G F_ots_isKey [.int .i64 p1] τ (.bool r) τ := by
  refine Ru_of fun K hK => ?_
  rw [tC_code g_ots_isKey (Nat.le_of_ble_eq_true rfl)]
  unfold ots_isKey_f at h
  by_cases c1 : (0 : Int) ≤ p1
  · rw [if_pos c1] at h
    injection h with h; subst h
    simp -implicitDefEqProofs only [U_ots_isKey,TT,Ic.t,Ic.ci,Nat.reduceEqDiff,reduceIte,Nat.reduceAdd,Nat.reduceMul,Nat.reduceLT,Nat.reduceLeDiff,Nat.reduceSub,reduceCtorEq,Int.reduceEq,Int.reduceNe,Int.reduceToNat,Int.reduceLT,Int.reduceLE,Int.reduceNeg,hl,c1,CL,LTN]
    exact hK
  rw [if_neg c1] at h
  injection h with h; subst h
  simp -implicitDefEqProofs only [U_ots_isKey,TT,Ic.t,Ic.ci,Nat.reduceEqDiff,reduceIte,Nat.reduceAdd,Nat.reduceMul,Nat.reduceLT,Nat.reduceLeDiff,Nat.reduceSub,reduceCtorEq,Int.reduceEq,Int.reduceNe,Int.reduceToNat,Int.reduceLT,Int.reduceLE,Int.reduceNeg,hl,c1,CL,LTN]
  exact hK
theorem ots_isKey_f_k (p1 : Int) (r : Bool) (h : ots_isKey_f p1 = some r) (lk : Bool) (d : Option Nat) (K : TCont) (fr : TF) (tk : TK) (τ : TH) (hl : τ.lock ≤ τ.next) : callK G lk F_ots_isKey [.int .i64 p1] d K fr tk τ = K (tput fr d (.bool r)) tk τ :=
  callK_rdo (ots_isKey_f_s p1 r h τ  hl) (ots_isKey_f_s p1 r h (τ.locked τ.next)  (Nat.le_refl _) ) (by simp -implicitDefEqProofs only [TT,Ic.t,Ic.ci,Nat.reduceEqDiff,reduceIte,Nat.reduceAdd,Nat.reduceMul,Nat.reduceLT,Nat.reduceLeDiff,Nat.reduceSub,reduceCtorEq,Int.reduceEq,Int.reduceNe,Int.reduceToNat,Int.reduceLT,Int.reduceLE,Int.reduceNeg,hl,CL,LTN])
end Go.Proofs.Ytnimkejbeogciaa
