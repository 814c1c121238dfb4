/- The law of what is signed, as a function of numbers and lists. -/
import Derived.Test.YtnimkejbeogciaaOtsP
set_option linter.unusedSimpArgs false
set_option linter.unusedVariables false
set_option linter.unusedSectionVars false
namespace Go.Proofs.Ytnimkejbeogciaa
open Go Go.RowKit Sh Ic
open Sh.ArgT (enc)
theorem verifies_f (seed : ByteArray) (key : Int) (msg : ByteArray) : handsellaw02_OtsVerifies_f seed key msg = some true := by
  unfold handsellaw02_OtsVerifies_f
  by_cases c1 : (200 : Int) < ((seed.size : Nat) : Int)
  · rw [if_pos c1,awake_f]; rfl
  rw [if_neg c1]
  by_cases c2 : (500 : Int) < ((msg.size : Nat) : Int)
  · rw [if_pos c2,awake_f]; rfl
  rw [if_neg c2]
  have hs : seed.size < 100000 := by omega
  have hm : msg.size < 100000 := by omega
  have hk := isK256 key
  rw [place_f key 256 (by decide) (by decide),obz]
  generalize key % 256 = k at hk
  have s1 := SIGN_size seed k hk msg
  have s2 := PUB_size seed k
  have x1 : (⟨#[120]⟩ : ByteArray).size = 1 := rfl
  have v1 := VER_sign (PUB seed k) seed k hk msg
  have v2 := VER_sign (PUB seed k ++ (⟨#[120]⟩ : ByteArray)) seed k hk msg
  have v3 := VER_len (PUB seed k) msg ((SIGN seed k msg).extract 1 (SIGN seed k msg).size) (by rw [ByteArray.size_extract,s1]; decide)
  have v4 := VER_len (PUB seed k) msg (SIGN seed k msg ++ (⟨#[120]⟩ : ByteArray)) (by rw [ByteArray.size_append,s1,x1]; decide)
  rw [pub1_f seed hs,obz,if_pos hk,sign1_f seed hs k msg hm,obz,if_pos hk]
  generalize SIGN seed k msg = g at *
  generalize PUB seed k = p at *
  rw [decide_eq_true rfl] at v1
  rw [decide_eq_false (more p)] at v2
  rw [if_pos (by omega),if_pos (by omega),ver1_f _ _ _ hm,obz,if_pos v1,if_pos ⟨by omega,by omega⟩,ver1_f _ _ _ hm,obz,v3,if_neg (by decide),if_pos (by omega),ver1_f _ _ _ hm,obz,v4,if_neg (by decide),if_pos (by omega),ver1_f _ _ _ hm,obz,v2,if_neg (by decide),awake_f]
  rfl
theorem otsVerifies_ok (seed : ByteArray) (k : Int) (msg : ByteArray) (_ : Arg.ok seed) (_ : Arg.ok k) (_ : Arg.ok msg) : Lw G F_handsellaw02_OtsVerifies [enc seed,enc k,enc msg] := ⟨_,handsellaw02_OtsVerifies_f_s seed k msg true (verifies_f seed k msg) ⟨[],0⟩ (Nat.le_refl _)⟩
end Go.Proofs.Ytnimkejbeogciaa
