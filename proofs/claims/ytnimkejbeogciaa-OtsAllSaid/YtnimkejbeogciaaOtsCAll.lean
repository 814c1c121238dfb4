/- The law of all of one-time signatures, as a function of numbers and lists. -/
import Derived.Test.YtnimkejbeogciaaOtsP
set_option linter.unusedSimpArgs false
set_option linter.unusedVariables false
set_option linter.unusedSectionVars false
namespace Go.Proofs.Ytnimkejbeogciaa
open Go Go.RowKit Sh Ic
open ArgT (enc)
theorem all_f (seed : ByteArray) (k i b : Int) (msg sig pub : ByteArray) : handsellaw02_OtsAll_f seed k i b msg sig pub = some true := by
  unfold handsellaw02_OtsAll_f
  by_cases c1 : (200 : Int) < ((seed.size : Nat) : Int)
  · rw [if_pos c1,awake_f]; rfl
  rw [if_neg c1]
  by_cases c2 : (500 : Int) < ((msg.size : Nat) : Int)
  · rw [if_pos c2,awake_f]; rfl
  rw [if_neg c2]
  by_cases c3 : (600 : Int) < ((sig.size : Nat) : Int)
  · rw [if_pos c3,awake_f]; rfl
  rw [if_neg c3]
  by_cases c4 : (40 : Int) < ((pub.size : Nat) : Int)
  · rw [if_pos c4,awake_f]; rfl
  rw [if_neg c4]
  have hs : seed.size < 100000 := by omega
  have hm : msg.size < 100000 := by omega
  rw [val1_f seed hs,obz,val2_f seed hs,obz,if_pos rfl,pub1_f seed hs,obz,pub2_f seed hs,obz,if_pos rfl,sign1_f seed hs k msg hm,obz,sign2_f seed hs k msg hm,obz,if_pos rfl,ver1_f _ _ _ hm,obz,ver2_f _ _ _ hm,obz,if_pos (beq_self_eq_true _),awake_f]
  rfl
theorem otsAll_ok (seed : ByteArray) (k i b : Int) (msg sig pub : ByteArray) (_ : Arg.ok seed) (_ : Arg.ok k) (_ : Arg.ok i) (_ : Arg.ok b) (_ : Arg.ok msg) (_ : Arg.ok sig) (_ : Arg.ok pub) : Lw G F_handsellaw02_OtsAll [enc seed,enc k,enc i,enc b,enc msg,enc sig,enc pub] := ⟨_,handsellaw02_OtsAll_f_s seed k i b msg sig pub true (all_f seed k i b msg sig pub) ⟨[],0⟩ (Nat.le_refl _)⟩
end Go.Proofs.Ytnimkejbeogciaa
