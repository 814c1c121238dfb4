/- handsellaw00.Digits by hand: of one place. -/
import Derived.Test.YtdcfoaafkppojaaD3
import Derived.IntWalk
set_option linter.unusedVariables false
set_option linter.unusedSimpArgs false
set_option linter.unusedSectionVars false
namespace Go.Proofs.Ytdcfoaafkppojaa
open Go Go.RowKit Sh Ic
def qy (v : Int) : Option ByteArray := if 0 ≤ v ∧ v < 10 then some ((⟨#[48,49,50,51,52,53,54,55,56,57]⟩ : ByteArray).extract v.toNat (v.toNat + 1)) else none
theorem digits_Ru (v : Int) (h0 : 0 ≤ v) (h9 : v < 10) (τ : TH) (hl : τ.lock ≤ τ.next) : Ru G im [.int .i64 v] τ (.str ((⟨#[48,49,50,51,52,53,54,55,56,57]⟩ : ByteArray).extract v.toNat (v.toNat + 1))) τ := by
  refine jk fun K hK => ?_
  rw [b7 zay1 (Nat.le_of_ble_eq_true rfl)]
  have c1 : ¬ v ≤ -10 := by omega
  have c2 : ¬ v < 0 := by omega
  have w1 : IntKind.i64.wrap (v + 1) = v + 1 := IntWalk.i64_in _ ⟨by omega,by omega⟩
  have t1 : (v + 1).toNat = v.toNat + 1 := by omega
  have b1 : 0 ≤ v + 1 := by omega
  have b2 : v + 1 ≤ 10 := by omega
  have b3 : v ≤ v + 1 := by omega
  have z : ((ByteArray.size ⟨#[48,49,50,51,52,53,54,55,56,57]⟩ : Nat) : Int) = 10 := rfl
  simp -implicitDefEqProofs only [za0q,TT,Ic.t,Ic.ci,Nat.reduceEqDiff,reduceIte,Nat.reduceAdd,Nat.reduceLT,reduceCtorEq,Int.reduceToNat,c1,c2,h9,w1,t1,h0,b1,b2,b3,hl,z,ig,tHi,tLo,Option.map_some,Option.bind_some]
  exact ⟨by omega,hK⟩
theorem x6 (p1 : Int) (r : ByteArray) (h : qy p1 = some r) (lk : Bool) (d : Option Nat) (K : au) (fr : TF) (tk : TK) (τ : TH) (hl : τ.lock ≤ τ.next) : fv G lk im [.int .i64 p1] d K fr tk τ = K (fu fr d (.str r)) tk τ := by
  obtain ⟨⟨h1,h2⟩,h⟩ := ifS h
  injection h with h
  subst h
  have hr := fun τ hl => digits_Ru p1 h1 h2 τ hl
  exact aw (hr _ hl) (hr _ (Nat.le_refl _)) (by simp -implicitDefEqProofs only [TT,Ic.t,Ic.ci,Nat.reduceEqDiff,reduceIte,Nat.reduceAdd,Nat.reduceLT,reduceCtorEq,Int.reduceToNat])
end Go.Proofs.Ytdcfoaafkppojaa
